/- Part 7 of 13. -/
import Derived.Test.YtfgegilhjlnohaaGreatMgInferChecks6
import Derived.Shelf.Slices.Delete
import Derived.Lib.Strings
import Derived.Below
import Derived.Laws.Bits
import Derived.Deep.DeepCutAuto
import Derived.Deep.CutRange

noncomputable section
namespace Go.Proofs.YtfgegilhjlnohaaGreat
open Go.RowKit
set_option linter.unusedSimpArgs false
set_option linter.unusedVariables false
section
variable {P:Program} {tb:Tbl}
theorem Qaou{G G' : Gh}{w w' : World}{n m:Nat}{I J:List Nat}(hE:Ex (n,m) G w G' w')(hn:G.name.length=n)(hm:G.tok.length=m)(hI:∀ i ∈ I,i<G'.name.length)(hJ:∀ j ∈ J,j<G'.tok.length)(hdI:I.take n=List.range n)(hid:J.take m=List.range m):Stp G w (G'.sub I J) w' := by
 have low:∀ {K:List Nat} {m t:Nat},K.take m=List.range m->t<m->K[t]? = some t:=λ{K m t} h hl=>by
  have:=congrArg (·[t]?) h;simp only[List.getElem?_take,if_pos hl,Qxd hl] at this;exact this
 refine⟨⟨hE.ext.os,hE.ext.tape,hE.ext.output,hE.ext.size,hE.ext.com,hE.ext.old,hE.ext.new,λb hb=>?_,hE.ext.mono,hE.ext.shp⟩,λnm b hb=>?_,λt T ht=>?_⟩
 .rcases hb with hb | ⟨T,hT,hb⟩
  .exact hE.ext.mine b (.inl (Qf8 hI hb))
  .exact hE.ext.mine b (.inr ⟨T,Qf8 hJ hT,hb⟩)
 .have hl:nm<n:=by rw[<-hn]; exact(List.getElem?_eq_some_iff.1 hb).1
  have hk:=low hdI hl;rw[Qp7 hk (hI nm (List.mem_of_getElem? hk))];exact hE.name nm b hl hb
 .have hl:t<m:=by rw[<-hm]; exact(List.getElem?_eq_some_iff.1 ht).1
  obtain⟨T', h1,h2⟩:=hE.tok t T hl ht;have hJt:=low hid hl;exact⟨T', by rw[Qr5 hJt (hJ t (List.mem_of_getElem? hJt))]; exact h1,h2⟩
structure EndN (n m:Nat) (s' : S) (r d:D) (t:S):Prop where
 ex:∃ I J,Qajm n t.heap.length I=true/\Qajm m t.live.length J=true/\LeD d (r.ren I J)/\LeH (t.heap.take n) ((s'.heap.take n).map λcs=>cs.map (D.ren I J)) /\
  (I.drop n).map (t.heap.getD · [])=(s'.heap.drop n).map (λcs=>cs.map (D.ren I J))/\J.map (t.live.getD · 0)=s'.live
def Qal2(ds:List D):D:=match ds with
 | [d]=>d
 | ds =>.tup ds
def Qasv(tb:Tbl)(rs:List ResultVar)(R:D->S->Prop)(e:Exit)(σ : St):Prop :=
 match e with
 | .normal=>Qhm tb σ rs λds=>R (Qal2 ds) σ.s
 | .ret=>Qhm tb σ rs λds=>R (Qal2 ds) σ.s
 | _=>False
theorem Qal3{G:Gh}{w:World}{ds:List D}{us:List Value}(hl:us.length=ds.length)(h:∀ (j:Nat) d u,ds[j]? = some d->us[j]? = some u->DRel G w d u) :
  DRel G w (Qal2 ds) (if h:us.toArray.size=1 then us.toArray[0] else .tuple us.toArray):=by
 unfold Qal2;split
 .rename_i d
  match us,hl with
  | [u],_=>exact h 0 _ u rfl rfl
 .rename_i hne;have hsz:¬ us.toArray.size=1:=by
   intro h1;have h2:ds.length=1:=by rw[<-hl]; simpa using h1
   match ds,h2 with
   | [d],_=>exact hne d rfl
  rw[dif_neg hsz];exact .tup _ _ (by simp[hl]) λj c u hc hu=>h j c u hc (by simpa using hu)
theorem CallOK.ofTN(hT:TblOk P tb){f:FuncId}{fn:Func}{c:Code}(hf:P.funcs[f]? = some fn)(hb:fn.body=some c)(hn:isFn P f=true){args:List D}(hN:args.length<=fn.ntmps){s s' : S}{r:D}
  (hr:r.lt s'.heap.length s'.live.length=true) (hs:s'.heap.all (λcs=>cs.all (D.lt s'.heap.length s'.live.length))=true)
  (hn' : s.heap.length<=s'.heap.length)
  (h:T (s.heap.length,s.live.length) P fn.ntmps c (λe σ => ∃ τ,Le (s.heap.length,s.live.length) fn.ntmps σ τ /\ Qasv tb fn.results.toList (EndN s.heap.length s.live.length s' r) e τ) ⟨Qv5 args 0,s⟩):CallOK P f args s r s' := by
 refine⟨hn,λG w us hI hl hrel=>?_⟩;have hR:Rel fn.ntmps G ⟨Qv5 args 0,s⟩ { tmps:=us++Array.replicate (fn.ntmps-us.size) undef,defers:=[] } w:=by
  refine⟨hI,λt d hd=>?_,by simp; omega⟩;obtain⟨h1,h2⟩:=Qo7 args 0 t d hd;have hlt:t<args.length:=(List.getElem?_eq_some_iff.1 h1).1;have hlt2:t<us.size:=by omega
  refine⟨by simp; omega,?_⟩;refine hrel t d _ h1 ?_;simp only[Array.getD_eq_getD_getElem?,Array.getElem?_append_left hlt2,Array.getElem?_eq_getElem hlt2,Option.getD_some]
 have hln:G.name.length=s.heap.length:=hI.names;have hlt:G.tok.length=s.live.length:=by rw[<-hI.live]; simp
 refine Qo8 hf hb (T_up h λe σ' hq=>hq) hR λe G' σ' a' w' hE hR' hq=>?_
 have key:∀ (hq:Qhm tb σ' fn.results.toList λds=>EndN s.heap.length s.live.length s' r (Qal2 ds) σ'.s),∃ v,(results fn a'.tmps).run P w' = .ok v w' /\
   ∃ u G', Ending.returned v = .returned u/\Stp G w G' w' /\ Inv G' s' w' /\ DRel G' w' r u:=λhq=>by
  obtain⟨ds,us', h1,h2,h3,⟨I,J,hI0,hJ0,h4,h5,h5b,h6⟩⟩:=Qf7 hT hR' _ _ hq;unfold Qajm at hJ0 hI0;simp only[Bool.and_eq_true] at hJ0 hI0;obtain⟨⟨hI1,hI2⟩,hI3⟩:=hI0;obtain⟨⟨hJ1,hJ2⟩,hJ3⟩:=hJ0;have nI:=Qc0 I hI1;have nJ:=Qc0 J hJ1;have bI:=Qj8 hI2;have bJ:=Qj8 hJ2;have hI3' : I.take s.heap.length=List.range s.heap.length:=by simpa using hI3
  have lT:G'.tok.length = σ'.s.live.length:=by have:=congrArg List.length hR'.inv.live; simpa using this
  have lN:G'.name.length = σ'.s.heap.length:=hR'.inv.names;have hd:=(Qal3 h2 h3).le h4;have h7:=LeH.app h5 (LeH.refl (σ'.s.heap.drop s.heap.length));rw[List.take_append_drop] at h7;have hinv1:=Inv.le (h := σ'.s.heap) (live := σ'.s.live) hR'.inv h7;have hlen:((s'.heap.take s.heap.length).map λcs=>cs.map (D.ren I J)).length=s.heap.length:=by rw[List.length_map,List.length_take]; omega
  have hlI:I.length=s'.heap.length:=by
   have e1:=congrArg List.length h5b;have e2:=congrArg List.length hI3';simp only[List.length_map,List.length_drop,List.length_take,List.length_range] at e1 e2;omega
  have hlJ:J.length=s'.live.length:=by rw[<-h6]; simp
  have hll:((s'.heap.take s.heap.length).map (λcs=>cs.map (D.ren I J)) ++ σ'.s.heap.drop s.heap.length).length = σ'.s.heap.length:=by
   have:=hinv1.names;rw[<-this,lN]
  have up:∀ i ∈ I.drop s.heap.length,s.heap.length<=i:=λi hi=>by
   refine Nat.le_of_not_lt λhlt=>?_
   have e:(I.take s.heap.length++I.drop s.heap.length).Nodup:=by rw[List.take_append_drop]; exact nI
   refine(List.nodup_append.1 e).2.2 i ?_ i hi rfl;rw[hI3']; exact List.mem_range.2 hlt
  have hinv2:Inv (G'.sub I J) ⟨s'.heap,s'.live⟩ w' := hinv1.sub (I:=I) (J:=J) nI nJ (λi hi=>by rw[hll]; exact bI i hi) bJ (by
   have e:=Q15 ((s'.heap.take s.heap.length).map λcs=>cs.map (D.ren I J)) (σ'.s.heap.drop s.heap.length) [];rw[hlen] at e;have e2:(I.drop s.heap.length).map (((s'.heap.take s.heap.length).map (λcs=>cs.map (D.ren I J)) ++ σ'.s.heap.drop s.heap.length).getD · [])=(s'.heap.drop s.heap.length).map (λcs=>cs.map (D.ren I J)):=by
    rw[<-h5b];refine List.map_congr_left λi hi=>?_
    have hi2:=up i hi;simp only[List.getD];rw[List.getElem?_append_right (by omega),List.getElem?_drop,hlen];congr 2; omega
   have e3:I=List.range s.heap.length++I.drop s.heap.length:=by rw[<-hI3', List.take_append_drop]
   have e4:s'.heap.map (λcs=>cs.map (D.ren I J))=(s'.heap.take s.heap.length).map (λcs=>cs.map (D.ren I J))++(s'.heap.drop s.heap.length).map (λcs=>cs.map (D.ren I J)):=by rw[<-List.map_append,List.take_append_drop]
   exact(congrArg (List.map _) e3).trans (by rw[List.map_append,e,e2,e4])) h6 (by rw[hlI,hlJ]; exact hs)
  have hst:Stp G w (G'.sub I J) w' := Qaou hE hln hlt (λi hi=>by rw[lN]; exact bI i hi) (λj hj=>by rw[lT]; exact bJ j hj) hI3' (by simpa using hJ3);refine⟨if h:us'.toArray.size=1 then us'.toArray[0] else .tuple us'.toArray,?_,_,_,rfl,hst,hinv2,Q7z (λi hi=>by rw[lN]; exact bI i hi) (λj hj=>by rw[lT]; exact bJ j hj) (by rw[hlI,hlJ]; exact hr) hd⟩;unfold results;rw[Sem.run_bind,Array.mapM_eq_mapM_toList,Sem.run_map]
  erw [h1]
  rfl
 cases e with
 | normal=>exact⟨.inl rfl,key hq⟩
 | ret=>exact⟨.inr rfl,key hq⟩
 | _=>exact hq.elim
theorem CallOK.ofBN(hm:P.follows .mixedOrders=true)(hT:TblOk P tb){f:FuncId}{fn:Func}{c:Code}(lv:List (Nat×List Nat))(hf:P.funcs[f]? = some fn)(hb:fn.body=some c)(hn:isFn P f=true){args:List D}(hN:args.length<=fn.ntmps){s s' : S}{r:D}
  (hr:r.lt s'.heap.length s'.live.length=true) (hs:s'.heap.all (λcs=>cs.all (D.lt s'.heap.length s'.live.length))=true)
  (hn' : s.heap.length<=s'.heap.length)
  (h:bwp (s.heap.length,s.live.length) P tb fn.ntmps lv c (λe σ => ∃ τ,Le (s.heap.length,s.live.length) fn.ntmps σ τ /\ Qasv tb fn.results.toList (EndN s.heap.length s.live.length s' r) e τ) ⟨Qv5 args 0,s⟩):CallOK P f args s r s' :=
 CallOK.ofTN hT hf hb hn hN hr hs hn' (Qan hm hT c _ _ h)
theorem Q19{α : Type}{x y : α}{d:D}{u:S}{n m:Nat}{t : α -> D}{ss : α -> S}(h:some x=some y)(k:EndN n m (ss x) (t x) d u):EndN n m (ss y) (t y) d u:=by cases h; exact k
theorem Q8h{α R:Type}{x:Option α}{f : α -> Option R}{r:R}{g:FuncId}{args:List D}{s:S}(t : α -> D)(s' : α -> S){K:D->S->Prop}(h:(x>>=f)=some r)(hok:∀ y,x=some y->CallOK P g args s (t y) (s' y))(k:∀ y,x=some y->f y=some r->K (t y) (s' y)) :
  ∃ r s', CallOK P g args s r s' /\ K r s' := Qah h λy hy hf=>⟨t y,s' y,hok y hy,k y hy hf⟩
end
theorem Q06{p:Prop}[Decidable p]{R:Type}{f:Unit->Option R}{r:R}{φ : Prop}(h:(need p>>=f)=some r)(k:p->f ()=some r -> φ) : φ := by
 unfold need at h;split at h
 .rename_i hp; exact k hp h
 .cases h
def noTD(t:Nat):D->Bool
 | .agg ds=>ds.all (noT1 t)
 | .tup ds=>ds.all (noT1 t)
 | .fn _ x y=>x.all (noT1 t)&&y.all (noT1 t)
 | d=>noT1 t d
def Qaov(t q:Nat):Env->Bool
 | []=>false
 | (s,d)::r=>if s=q then r.all (λp=>noTD t p.2) else noTD t d&&Qaov t q r
theorem Qafy{t v v' : Nat}{d:D}(h:noT1 t d=true):ver1 t v v' d=d:=by
 cases d with
 | x t' w X =>
  have:t' ≠ t:=by simpa [noT1] using h
  simp[ver1,this]
 | _=>rfl
theorem Qaqu{t v v' : Nat}{ds:List D}(h:ds.all (noT1 t)=true):ds.map (ver1 t v v')=ds:=by
 rw[List.all_eq_true] at h;exact(List.map_congr_left (g:=id) λd hd=>Qafy (h d hd)).trans (List.map_id ds)
theorem Qal4{t v v' : Nat}{d:D}(h:noTD t d=true):verD t v v' d=d:=by
 cases d with
 | agg ds=>exact congrArg D.agg (Qaqu h)
 | x t' w X=>exact Qafy (d :=.x t' w X) h
 | _=>rfl
theorem Qal5{t v v' : Nat}:∀ {env:Env},env.all (λp=>noTD t p.2)=true->verE t v v' env=env
 | [],_=>rfl
 | (s,d)::r,h=>by
  simp only[List.all_cons,Bool.and_eq_true] at h;rw[verE,Qal4 h.1,Qal5 h.2]
theorem Qapq{t v:Nat}{d:D}(h:noTD t d=true):okT t v d=true:=by
 have one:∀ d:D,noT1 t d=true->okT1 t v d=true:=λd h=>by
  cases d with
  | x t' w X=>have h:(t' != t)=true:=h; simp[okT1,h]
  | fn _ _ _=>cases h
  | agg _=>cases h
  | tup _=>cases h
  | sf _=>cases h
  | ef _=>cases h
  | _=>exact h
 cases d with
 | agg ds =>
  have h:ds.all (noT1 t)=true:=h;rw[List.all_eq_true] at h;exact List.all_eq_true.2 λd hd=>one d (h d hd)
 | tup ds=>exact h
 | fn _ x y=>exact h
 | sf _=>cases h
 | ef _=>cases h
 | p x=>exact one (.p x) h
 | ptr a b=>exact one (.ptr a b) h
 | own a b c e=>exact one (.own a b c e) h
 | yld a b c=>exact one (.yld a b c) h
 | sp a b c d e=>exact one (.sp a b c d e) h
 | x a b c=>exact one (.x a b c) h
 | mh a=>exact one (.mh a) h
 | undef=>exact one .undef h
theorem Qal6{t q v v' : Nat}{X:XD}:∀ {env:Env},Qaov t q env=true->env.lookup q=some (.x t v X)->verE t v v' env=setE env q (.x t v' X)/\env.all (λp=>okT t v p.2)=true
 | [],h,_=>by cases h
 | (s,d)::r,h,hl=>by
  unfold Qaov at h;by_cases hs:s=q
  .rw[if_pos hs] at h;subst hs;simp only[List.lookup_cons,beq_self_eq_true,Option.some.injEq] at hl;subst hl;refine⟨?_,?_⟩
   .rw[verE,Qal5 h,setE,if_pos rfl]; simp[verD,ver1]
   .simp only[List.all_cons,Bool.and_eq_true];refine⟨by simp[okT,okT1],?_⟩;rw[List.all_eq_true] at h ⊢;exact λp hp=>Qapq (h p hp)
  .rw[if_neg hs] at h;simp only[Bool.and_eq_true] at h;have hb:(q==s)=false:=by simpa using Ne.symm hs
   rw[List.lookup_cons,hb] at hl;obtain⟨e1,e2⟩:=Qal6 h.2 hl;refine⟨?_,?_⟩
   .rw[verE,Qal4 h.1,e1,setE,if_neg hs]
   .simp only[List.all_cons,Bool.and_eq_true]; exact⟨Qapq h.1,e2⟩
def noTH(t:Nat):D->Bool
 | .tup [.p _]=>true
 | .fn _ x y=>x.all (noT1 t)&&y.all (noT1 t)
 | d=>noT1 t d
theorem Qaqv{t v v' : Nat}{d:D}(h:noTH t d=true):ver1 t v v' d=d:=by
 cases d with
 | x t' w X=>exact Qafy (d :=.x t' w X) h
 | _=>rfl
theorem Qaqw{t v:Nat}{d:D}(h:noTH t d=true):okT1 t v d=true:=by
 cases d with
 | x t' w X=>have h:(t' != t)=true:=h; simp[okT1,h]
 | fn _ _ _=>exact h
 | agg _=>cases h
 | tup ds =>
  match ds,h with
  | [.p _],_=>rfl
 | sf _=>cases h
 | ef _=>cases h
 | p x=>exact h
 | ptr a b=>exact h
 | own a b c e=>exact h
 | yld a b c=>exact h
 | sp a b c d e=>exact h
 | mh a=>exact h
 | undef=>exact h
theorem Le.verh{B:Nat×Nat}{N:Nat}{env:Env}{s:S}(q t v v' : Nat){X:XD}(h:s.live[t]? = some v)(hg:env.lookup q=some (.x t v X))(hE:Qaov t q env=true)(hH:s.heap.all (λcs=>cs.all (noTH t))=true)
  (hB:B.2<=t:=by exact Nat.le_of_ble_eq_true rfl):Le B N ⟨env,s⟩ ⟨setE env q (.x t v' X),⟨s.heap,s.live.set t v'⟩⟩:=by
 obtain⟨e1,e2⟩:=Qal6 (v' := v') hE hg;have e3:verH t v v' s.heap=s.heap:=by
  rw[Q0y];rw[List.all_eq_true] at hH;refine(List.map_congr_left (g:=id) λcs hc=>?_).trans (List.map_id s.heap);have:=hH cs hc;rw[List.all_eq_true] at this;exact(List.map_congr_left (g:=id) λd hd=>Qaqv (this d hd)).trans (List.map_id cs)
 have e4:s.heap.all (λcs=>cs.all (okT1 t v))=true:=by
  rw[List.all_eq_true] at hH ⊢;intro cs hc;have:=hH cs hc;rw[List.all_eq_true] at this ⊢;intro d hd;exact Qaqw (this d hd)
 have:=Le.ver (B:=B) (N:=N) (env:=env) (s:=s) (.s q) t v v' h hg e2 e4 hB
 rwa [e1,e3] at this
def Gh.into(G:Gh)(t m n:Nat)(Tm:Tok):Gh:={ G with tok:=(G.tok.set t Tm).set m ⟨n+1,none,0,none⟩ }
theorem Qah6{G:Gh}{t m n:Nat}{Tm:Tok}(hm:G.tok[m]? = some Tm){x:Nat}{T:Tok}(h:(G.into t m n Tm).tok[x]? = some T):(x=m/\T=⟨n+1,none,0,none⟩)\/(x≠m/\x=t/\T=Tm)\/(x≠m/\x≠t/\G.tok[x]? = some T):=by
 have h:((G.tok.set t Tm).set m ⟨n+1,none,0,none⟩)[x]? = some T:=h;have hml:=(List.getElem?_eq_some_iff.1 hm).1;by_cases hx:x=m
 .subst hx;rw[List.getElem?_set_self (by simpa using hml)] at h;cases h; exact .inl ⟨rfl,rfl⟩
 .rw[List.getElem?_set_ne (Ne.symm hx)] at h;by_cases hy:x=t
  .subst hy;rw[List.getElem?_set_self (by have:=(List.getElem?_eq_some_iff.1 h).1; simpa using this)] at h;cases h; exact .inr (.inl ⟨hx,rfl,rfl⟩)
  .rw[List.getElem?_set_ne (Ne.symm hy)] at h;exact .inr (.inr ⟨hx,hy,h⟩)
theorem Le.into{B:Nat×Nat}{N:Nat}{env:Env}{s:S}(q q2 t m v n:Nat){e size e2 size2:Nat}{es es2:List (List V)}(hg:env.lookup q=some (.own m e size es))(hw:env.lookup q2=some (.own t e2 size2 es2))(hl:s.live[t]? = some v)(hm:s.live[m]? = some n)
  (hn:es.length=n) (hv:v<n) (htm:t≠m):Le B N ⟨env,s⟩ ((Home.s q).set (.own t e size es) ⟨env,⟨s.heap,(s.live.set t n).set m (n+1)⟩⟩):=⟨λG a w hR=>by
 have hI:=hR.inv;obtain⟨Tt,ht,hpt,hlt⟩:∃ Tt,G.tok[t]? = some Tt/\Tt.pro=none/\Tt.len=v:=by
  obtain⟨T,h1,h2⟩:=Q72 hI hl;have:=(hR.env q2 _ hw).2;generalize a.tmps.getD q2 undef=u at this;cases this with
  | own _ _ _ _ _ T2 _ _ h3 h0 _ _ =>
   rw[h1] at h3;cases h3;exact⟨T,h1,h0,h2⟩
 obtain⟨Tm,hTm,hpm,hlm⟩:∃ Tm,G.tok[m]? = some Tm/\Tm.pro=none/\Tm.len=n:=by
  obtain⟨T,h1,h2⟩:=Q72 hI hm;have:=(hR.env q _ hg).2;generalize a.tmps.getD q undef=u at this;cases this with
  | own _ _ _ _ _ T2 _ _ h3 h0 _ _ =>
   rw[h1] at h3;cases h3;exact⟨T,h1,h0,h2⟩
 have dead:∀ b,¬ (Tok.mk (n+1) none 0 none).has b:=λb h=>by have:=Tok.has_row.1 h; cases this
 have mem:∀ T ∈ (G.into t m n Tm).tok,T=⟨n+1,none,0,none⟩\/T ∈ G.tok:=λT hT=>by
  obtain⟨x,hx⟩:=List.getElem?_of_mem hT;rcases Qah6 hTm hx with ⟨-,h⟩ | ⟨-,-,h⟩ | ⟨-,-,h⟩
  .exact .inl h
  .exact .inr (h ▸ List.mem_of_getElem? hTm)
  .exact .inr (List.mem_of_getElem? h)
 have hml:=(List.getElem?_eq_some_iff.1 hTm).1;have htl:=(List.getElem?_eq_some_iff.1 ht).1;have gm:(G.into t m n Tm).tok[m]? = some ⟨n+1,none,0,none⟩:=by
  show((G.tok.set t Tm).set m _)[m]? = _;rw[List.getElem?_set_self (by simpa using hml)]
 have gt:(G.into t m n Tm).tok[t]? = some Tm:=by
  show((G.tok.set t Tm).set m _)[t]? = _;rw[List.getElem?_set_ne (Ne.symm htm),List.getElem?_set_self htl]
 have go:∀ x,x≠t->x≠m->(G.into t m n Tm).tok[x]? = G.tok[x]? := λx h1 h2=>by
  show((G.tok.set t Tm).set m _)[x]? = _;rw[List.getElem?_set_ne (Ne.symm h2),List.getElem?_set_ne (Ne.symm h1)]
 have stp:Stp G w (G.into t m n Tm) w:=by
  refine⟨⟨rfl,rfl,rfl,Nat.le_refl _,λb o u h k=>⟨h,k⟩,λ_ _ _ _=>rfl,λb o h =>.inl h,λb hb=>?_,λb o h=>h,.refl w⟩,λnm b h=>h,λx T hx=>?_⟩
  .rcases hb with hb | ⟨T,hT,hb⟩
   .exact .inr (.inl hb)
   .rcases mem T hT with rfl | h
    .exact absurd hb (dead b)
    .exact .inr (.inr ⟨T,h,hb⟩)
  .by_cases h1:x=t
   .subst h1;rw[ht] at hx;cases hx;exact⟨Tm,gt,⟨by omega,by rw[hpm,hpt]⟩,λh=>by omega⟩
   .by_cases h2:x=m
    .subst h2;rw[hTm] at hx;cases hx;exact⟨_,gm,⟨by show Tm.len<=n+1; omega,by rw[hpm]⟩,λh=>by have h:Tm.len=n+1:=h; omega⟩
    .exact⟨T,by rw[go x h1 h2]; exact hx,.refl T,λ_=>⟨rfl,λ_ _=>rfl⟩⟩
 have inv:Inv (G.into t m n Tm) ⟨s.heap,(s.live.set t n).set m (n+1)⟩ w:=by
  refine⟨λb o hc=>?_,hI.names,hI.nodup,λi b cs hb hcs=>(hI.var i b cs hb hcs).mono stp rfl,?_,λx T b hx hb=>?_,λT hT=>?_,hI.glob⟩
  .obtain⟨h1,h2,h3⟩:=hI.com b o hc;refine⟨h1,h2,λT hT=>?_⟩;rcases mem T hT with rfl | h
   .exact Tok.may_row.2 λh=>(nomatch h)
   .exact h3 T h
  .show((G.tok.set t Tm).set m _).map (·.len)=_;rw[List.map_set,List.map_set,hI.live,hlm]
  .have orig:∀ (y:Nat) T', (G.into t m n Tm).tok[y]? = some T' -> T'.has b->y≠m/\G.tok[if y=t then m else y]? = some T' := λy T' hy hb' => by
    rcases Qah6 hTm hy with ⟨-,h⟩ | ⟨h0,rfl,h⟩ | ⟨h0,h1,h⟩
    .subst h; exact absurd hb' (dead b)
    .subst h; exact⟨h0,by rw[if_pos rfl]; exact hTm⟩
    .exact⟨h0,by rw[if_neg h1]; exact h⟩
   obtain⟨k1,k2⟩:=orig x T hx hb;obtain⟨g1,g2,g3⟩:=hI.tok _ T b k2 hb;refine⟨g1,g2,λy T' hy hb' => ?_⟩;obtain⟨j1,j2⟩:=orig y T' hy hb';have:=g3 _ T' j2 hb';split at this<;>split at this<;>omega
  .rcases mem T hT with rfl | h
   .exact⟨λq hq=>(nomatch hq),λb o ⟨q,hq,_⟩=>(nomatch hq)⟩
   .exact hI.pro T h
 refine⟨G.into t m n Tm,stp.ex B,Qt4 (hm :=.s q) hR stp inv rfl (λ_ _=>rfl) hg λu hu=>?_⟩;cases hu with
 | own _ _ _ _ _ T2 h1 h2 h3 h0 h4 h5 =>
  rw[hTm] at h3;cases h3;obtain⟨a2,cap,rfl,h6⟩:=h5 (by omega);refine⟨.own t e size es _ Tm h1 h2 gt h0 h4 λhe=>⟨a2,cap,rfl,h6.imp id (Or.imp_left ?_)⟩,rfl⟩;rintro ⟨b,us,T3,ha,g1,g⟩;rw[hTm] at g1;cases g1;exact⟨b,us,Tm,ha,gt,g⟩⟩
def mget{κ α : Type}(eqb : κ -> κ -> Bool)(k : κ):List (κ × α)->Option α
 | []=>none
 | p::r=>if eqb k p.1 then some p.2 else mget eqb k r
def mset{κ α : Type}(eqb : κ -> κ -> Bool)(k : κ)(x : α):List (κ × α)->List (κ × α)
 | []=>[(k,x)]
 | p::r=>if eqb k p.1 then(k,x)::r else p::mset eqb k x r
abbrev mpR{κ α : Type}(ck : κ -> V)(ca : α -> V)(l:List (κ × α)):List (List V):=l.map λp=>[ck p.1,ca p.2]
abbrev mpD{κ α : Type}(ck : κ -> V)(ca : α -> V)(l:List (κ × α)):D :=.tup [.p (.sl false (mpR ck ca l))]
theorem Qacx{κ α : Type}{eq:V->V->Option Bool}{eqb : κ -> κ -> Bool}{ck : κ -> V}{ca : α -> V}(heq:∀ a b,eq (ck a) (ck b)=some (eqb a b))(k : κ):∀ l:List (κ × α),Q1r eq (ck k) (mpR ck ca l)=some ((mget eqb k l).map ca)
 | []=>rfl
 | p::r=>by
  have ih:=Qacx (ca:=ca) heq k r;show Q1r eq (ck k) ([ck p.1,ca p.2]::mpR ck ca r)=_;rw[Q1r,heq,mget];cases eqb k p.1 with
  | true=>rfl
  | false=>exact ih
theorem Qah7{κ α : Type}{eq:V->V->Option Bool}{eqb : κ -> κ -> Bool}{ck : κ -> V}{ca : α -> V}(heq:∀ a b,eq (ck a) (ck b)=some (eqb a b))(k : κ)(x : α):∀ l:List (κ × α),mSet eq (ck k) (ca x) (mpR ck ca l)=some (mpR ck ca (mset eqb k x l))
 | []=>rfl
 | p::r=>by
  have ih:=Qah7 (ca:=ca) heq k x r;show mSet eq (ck k) (ca x) ([ck p.1,ca p.2]::mpR ck ca r)=_;rw[mSet,heq,mset];cases eqb k p.1 with
  | true=>rfl
  | false =>
   show(mSet eq (ck k) (ca x) (mpR ck ca r)).map ([ck p.1,ca p.2] :: ·)=_;rw[ih]; rfl
theorem Qv9{κ α : Type}{l:List (κ × α)}{k : κ}(eqb : κ -> κ -> Bool){ck : κ -> V}{ca : α -> V}{z0 : α}{zv:Value}{z kx:V}{hp:Option (List D)}{eq:V->V->Option Bool}{ko:Bool}{K:V->Bool->Prop}
  (hko:ko=true) (hh:hp=some [mpD ck ca l]) (hkx:kx=ck k) (heq:∀ a b,eq (ck a) (ck b)=some (eqb a b)) (hz:absV zv=some z) (hle:LeV z (ca z0)) (h:K (ca ((mget eqb k l).getD z0)) (mget eqb k l).isSome) :
  ko=true/\∃ fl ms r z v b,hp=some [.tup [.p (.sl fl ms)]]/\Q1r eq kx ms=some r/\absV zv=some z/\LeV (r.getD z) v/\b=r.isSome/\K v b:=by
 subst hkx;refine⟨hko,false,_,_,z,ca ((mget eqb k l).getD z0),(mget eqb k l).isSome,hh,Qacx heq k l,hz,?_,?_,h⟩
 .cases mget eqb k l with
  | none=>exact hle
  | some x=>exact .refl _
 .cases mget eqb k l<;>rfl
theorem Qah8{κ α : Type}{l:List (κ × α)}{k : κ}{x : α}(eqb : κ -> κ -> Bool){ck : κ -> V}{ca : α -> V}{kx vx:V}{hp:Option (List D)}{eq:V->V->Option Bool}{ko:Bool}{K:Bool->List (List V)->Prop}
  (hko:ko=true) (hh:hp=some [mpD ck ca l]) (hkx:kx=ck k) (hvx:LeV vx (ca x)) (heq:∀ a b,eq (ck a) (ck b)=some (eqb a b)) (h:K false (mpR ck ca (mset eqb k x l))) :
  ko=true/\∃ fl ms ms' v,hp=some [.tup [.p (.sl fl ms)]]/\LeV vx v/\mSet eq kx v ms=some ms' /\ K fl ms' := by
 subst hkx;exact⟨hko,false,_,_,ca x,hh,hvx,Qah7 heq k x l,h⟩
end Go.Proofs.YtfgegilhjlnohaaGreat
end
noncomputable section
namespace Go.Proofs.YtfgegilhjlnohaaGreat
open Go.RowKit Go.Sort Go.Shelf
def srtL (ss:List (List UInt8)):List (List UInt8):=ss.mergeSort λx y=>decide (x<=y)
theorem Qapr{ss:List (List UInt8)}(h:ss.length<4611686018427387904):FnT Tryz.prog 48 #[] false ss (srtL ss):=Qaqt Tryz.lays190 (by kernel_rfl) ss h
theorem Qal7{ss:List (List UInt8)}(h:ss.length<4611686018427387904):FnT Tryz.prog 100 #[] true ss (Lib.compact ss):=Qajn Tryz.lays194 (by kernel_rfl) ss h
end Go.Proofs.YtfgegilhjlnohaaGreat
end

noncomputable section
namespace Go.Proofs.YtfgegilhjlnohaaGreat
open Go.RowKit
set_option linter.unusedSimpArgs false
set_option linter.unusedVariables false
def digs(m:Nat):List UInt8 :=
 if m<10 then [UInt8.ofNat (48+m)] else digs (m / 10)++[UInt8.ofNat (48+m % 10)]
termination_by m
decreasing_by omega
theorem Qafz(m:Nat)(h:m<10):digs m=[UInt8.ofNat (48+m)]:=by rw[digs,if_pos h]
theorem Qal8(m:Nat)(h:10<=m):digs m=digs (m / 10)++[UInt8.ofNat (48+m % 10)]:=by rw[digs,if_neg (by omega)]
theorem Qah9(m:Nat):∀ k,m<10 ^ (k+1)->(digs m).length<=k+1:=by
 intro k
 induction k generalizing m with
 | zero=>intro h; rw[Qafz m (by simpa using h)]; simp
 | succ k ih =>
  intro h;by_cases h10:m<10
  .rw[Qafz m h10]; simp
  .rw[Qal8 m (by omega)];have:=ih (m / 10) (by rw[Nat.pow_succ] at h; omega);simp; omega
def Qyt(n:Int):List UInt8:=if n<0 then 45::digs n.natAbs else digs n.natAbs
def isD(c:UInt8):Bool:=48<=c.toNat&&c.toNat<=57
def dv(c:UInt8):Nat:=c.toNat-48
def val(l:List UInt8):Nat:=l.foldl (λu c=>u*10+dv c) 0
theorem Qaow(u:Nat):(((UInt8.ofNat (48+u % 10)).toNat:Nat):Int)=48+(u:Int) % 10:=by
 simp; omega
theorem Qasw {P : Program} (src dst e : TypeId) (hs : P.underlying src = some (.slice e)) (he : P.underlying e = some (.int .u8)) (hd : P.underlying dst = some .string)
   (x : Int) (y : UInt8) (hxy : x = y.toNat) (b c : Nat) (W : World) (h0 : W.cell? ⟨b, 0, none⟩ = some (.int .u8 x)) :
   (convert src dst (.slice (some ⟨b, 0, none⟩) 1 c)).run P W = .ok (.string ⟨#[y]⟩) W := by
  subst hxy
  have := run_convert_bytes_back (P := P) W src dst e ⟨b, 0, none⟩ c [y] hs he hd (by
    intro j hj
    have hj2 : j = 0 := by simp at hj; omega
    subst hj2
    simpa [Addr.add] using h0)
  exact this
theorem Qal9(a b:List UInt8):(⟨a.toArray⟩:ByteArray)++(⟨b.toArray⟩:ByteArray)=⟨(a++b).toArray⟩:=by
 rw[<-Lib.mk_data (_++_)]; simp
set_option maxHeartbeats 800000 in
theorem Q63(m:Nat)(h:m<18446744073709551616)(w:World) :
  Calls Tryz.prog 182 #[.int .u64 m] w λe w' => e = .returned (.string ⟨(digs m).toArray⟩)/\Below w.heap.size w w' := by
 go_enter Tryz.func182,Tryz.ntmps182
 go_wp2
 go_loopw [0,3] (λn s wr=>∃ (u:Nat) (suf:List UInt8),u<18446744073709551616/\n = .int .u64 u/\s = .string ⟨suf.toArray⟩/\digs m=digs u++suf/\Below w.heap.size w wr) (λn _ _=>(intOf n).toNat)
 case atStart=>exact⟨m,[],h,rfl,rfl,by simp,Below.refl _ _⟩
 case round =>
  obtain⟨u,suf,hu,rfl,rfl,hd,hb⟩:=hrel;have hsl:suf.length<=20:=by
   have e:=congrArg List.length hd;have:=Qah9 m 19 (by omega);simp at e; omega
  have HD:=Lib.hid hd; clear hd;have HB:=Lib.hid hb; clear hb;by_cases hlt:9<u
  .have kc:=Qasw (P:=Tryz.prog) 57 9 5 Tryz.underlying57 Tryz.underlying5 Tryz.underlying9 (48+(u:Int) % 10) (UInt8.ofNat (48+u % 10)) (Qaow u).symm
   go_wp2
   go_roundw
   case rel=>exact⟨u / 10,(48+UInt8.ofNat (u % 10))::suf,by omega,by simp,congrArg Value.string (Qal9 [_] suf),by rw[HD.out,Qal8 u (by omega)]; simp,HB.out.trans ((Below.refl _ _).alloc HB.out.size _)⟩
   case measure=>simp[intOf]; omega
  .have kc:=Qasw (P:=Tryz.prog) 57 9 5 Tryz.underlying57 Tryz.underlying5 Tryz.underlying9 (48+(u:Int)) (UInt8.ofNat (48+u)) (by simp; omega)
   go_wp2
   go_ret
   refine⟨Qalw ?_,HB.out.trans ((Below.refl _ _).alloc HB.out.size _)⟩;rw[HD.out,Qafz u (by omega)];rw[show UInt8.ofNat (48+u)=48+UInt8.ofNat u from by simp];exact Qal9 [_] suf
set_option maxHeartbeats 800000 in
theorem Qxf(n:Int)(h0 : -9223372036854775808<=n)(h1:n<=9223372036854775807)(w:World) :
  Calls Tryz.prog 172 #[.int .i64 n] w λe w' => e = .returned (.string ⟨(Qyt n).toArray⟩)/\Below w.heap.size w w' := by
 rcases Int.lt_or_le n 0 with hn | hn
 .obtain⟨m,rfl⟩:∃ m:Nat,n = -((m:Int)+1):=⟨(-n-1).toNat,by omega⟩;have ht:Qyt (-((m:Int)+1))=45::digs (m+1):=by
   rw[Qyt,if_pos hn]; congr 2
  have hdg:=λw=>Q63 (m+1) (by omega) w
  have hl:(digs (m+1)).length<=20:=Qah9 _ 19 (by omega);rw[ht]; clear ht;generalize digs (m+1)=D at hdg hl;have HG:=Lib.hid hdg; clear hdg
  go_enter Tryz.func172,Tryz.ntmps172
  go_wp2_with fail
  rw[show -(-((m:Int)+1)+1)+1=((m+1:Nat):Int) from by omega];refine(HG.out _).mono ?_;rintro e w' ⟨rfl,hb⟩
  go_wp2_with fail
  go_ret
  exact⟨Qalw (Qal9 [45] _),hb⟩
 .obtain⟨m,rfl⟩:=Int.eq_ofNat_of_zero_le hn;have ht:Qyt (m:Int)=digs m:=by
   rw[Qyt,if_neg (by omega),Int.natAbs_natCast]
  rw[ht]; clear ht;have hdg:=λw=>Q63 m (by omega) w
  generalize digs m=D at hdg;have HG:=Lib.hid hdg; clear hdg
  go_enter Tryz.func172,Tryz.ntmps172
  go_wp2_with fail
  refine(HG.out _).mono ?_;rintro e w' ⟨rfl,hb⟩
  go_wp2_with fail
  go_ret
  exact⟨rfl,hb⟩
def Qz8(neg:Bool)(n:Int)(c:UInt8):Int:=if neg then wrap64 (wrap64 (10*n)-((c.toNat:Int)-48)) else wrap64 (wrap64 (10*n)+((c.toNat:Int)-48))
def Q2a(l:List UInt8):Int×Bool :=
 if l.length<1\/20<l.length then(0,false)
 else
  let neg:=l.head? == some 45
  let rest:=if neg then l.tail else l
  if rest.all isD then
   let n:=rest.foldl (Qz8 neg) 0
   if Qyt n=l then(n,true) else(0,false)
  else(0,false)
theorem Q64(n:Int) : -9223372036854775808<=wrap64 n/\wrap64 n<=9223372036854775807:=by
 simp[wrap64]; omega
theorem Qaps(rs:ByteArray)(k:Nat)(h:k<rs.size):(rs.data.toList.drop k).all isD=(isD rs[k]&&(rs.data.toList.drop (k+1)).all isD):=by
 have h' : k<rs.data.toList.length:=by rw[<-Qnx]; exact h
 rw[List.drop_eq_getElem_cons h']; rfl
theorem Qama(neg:Bool)(rs:ByteArray)(k:Nat)(h:k<rs.size)(n:Int):(rs.data.toList.drop k).foldl (Qz8 neg) n=(rs.data.toList.drop (k+1)).foldl (Qz8 neg) (Qz8 neg n rs[k]):=by
 have h' : k<rs.data.toList.length:=by rw[<-Qnx]; exact h
 rw[List.drop_eq_getElem_cons h']; rfl
theorem Q8i(c:UInt8):isD c=decide ((48:Int)<=(c.toNat:Int)/\(c.toNat:Int)<=57):=by
 rw[Bool.eq_iff_iff]; simp[isD]; omega
set_option maxHeartbeats 4000000 in
theorem Qaf0(s:ByteArray)(hs:s.size<=maxLen)(w:World) :
  Calls Tryz.prog 160 #[.string s] w λe w' => e = .returned (.tuple #[.int .i64 (Q2a s.data.toList).1,.bool (Q2a s.data.toList).2])/\Below w.heap.size w w' := by
 unfold maxLen at hs;by_cases hlen:s.data.toList.length<1\/20<s.data.toList.length
 .have hr:Q2a s.data.toList=(0,false):=by rw[Q2a,if_pos hlen]
  rw[hr]; clear hr;rw[<-Qnx] at hlen
  go_enter Tryz.func160,Tryz.ntmps160
  go_wp2_with fail
  all_goals (go_ret2; exact⟨rfl,Below.refl _ _⟩)
 .have hl1:0<s.size:=by rw[Qnx]; omega
  have hl2:s.size<=20:=by rw[Qnx]; omega
  have hneg:(s.data.toList.head? == some 45)=decide ((s[0].toNat:Int)=45):=by
   rw[Qacp];cases hl:s.data.toList with
   | nil=>rw[Qnx,hl] at hl1; simp at hl1
   | cons a t=>rw[Bool.eq_iff_iff]; simp[<-UInt8.toNat_inj]; omega
  have hr:Q2a s.data.toList=(if(if(s.data.toList.head? == some 45) then s.data.toList.tail else s.data.toList).all isD then
   (if Qyt ((if(s.data.toList.head? == some 45) then s.data.toList.tail else s.data.toList).foldl (Qz8 (s.data.toList.head? == some 45)) 0)=s.data.toList then((if(s.data.toList.head? == some 45) then s.data.toList.tail else s.data.toList).foldl (Qz8 (s.data.toList.head? == some 45)) 0,true) else(0,false)) else(0,false)):=by
   rw[Q2a,if_neg hlen]
  rw[hneg] at hr;by_cases h45:(s[0].toNat:Int)=45
  .rw[decide_eq_true h45] at hr;simp only[↓reduceIte,<-List.drop_one] at hr;have HR:=Lib.hid hr; clear hr;clear hneg hlen
   go_enter Tryz.func160,Tryz.ntmps160
   go_wp2_with fail
   go_loop [5,6] (λn i=>∃ (k:Nat) (m:Int),k<=s.size/\i = .int .i64 k/\n = .int .i64 m /\ -9223372036854775808<=m/\m<=9223372036854775807/\(s.data.toList.drop 1).all isD=(s.data.toList.drop k).all isD/\(s.data.toList.drop 1).foldl (Qz8 true) 0=(s.data.toList.drop k).foldl (Qz8 true) m) (λ_ i=>s.size-(intOf i).toNat)
   case atStart=>exact⟨1,0,by omega,rfl,rfl,by omega,by omega,rfl,rfl⟩
   case round =>
    obtain⟨k,m,hk,rfl,rfl,hm0,hm1,hal,hfo⟩:=hrel;have HA:=Lib.hid hal; clear hal;have HF:=Lib.hid hfo; clear hfo;by_cases hlt:k<s.size
    .have HS1:=Lib.hid (Qaps s k hlt);have HS2:=Lib.hid (Qama true s k hlt m);have hwr:=Q64 (wrap64 (10*m)-((s[k].toNat:Int)-48));have HW:=Lib.hid hwr; clear hwr;generalize hck:s[k]=c at HS1 HS2 HW;have hck2:s[k]=c:=hck;clear hck;by_cases hd:(48:Int)<=(c.toNat:Int)/\(c.toNat:Int)<=57
     .obtain⟨g1,g2⟩:=hd
      go_wp2
      go_round
      case rel=>exact⟨k+1,_,by omega,by go_num,rfl,HW.out.1,HW.out.2,by rw[HA.out,HS1.out,Q8i,decide_eq_true ⟨g1,g2⟩]; rfl,by rw[HF.out,HS2.out]; rfl⟩
      case measure=>simp[intOf]; omega
     .have hbad:(s.data.toList.drop 1).all isD=false:=by
       rw[HA.out,HS1.out,Q8i,decide_eq_false hd]; rfl
      have HB:=Lib.hid hbad; clear hbad
      go_wp2
      all_goals
       go_ret2
       exact⟨Q61 (by rw[HR.out,HB.out]; rfl) (by rw[HR.out,HB.out]; rfl),Below.refl _ _⟩
    .have hge:s.size<=k:=by omega
     have hz:s.data.toList.drop k=[]:=List.drop_of_length_le (by rw[<-Qnx]; exact hge);have hall:(s.data.toList.drop 1).all isD=true:=by rw[HA.out,hz]; rfl
     have hfin:(s.data.toList.drop 1).foldl (Qz8 true) 0=m:=by rw[HF.out,hz]; rfl
     clear hz;have HB:=Lib.hid hall; clear hall;have HC:=Lib.hid hfin; clear hfin;by_cases hq:Qyt m=s.data.toList
     .have hqb:(Qyt m==s.toList)=true:=by rw[Lib.toList_data]; simpa using hq
      have HQ:=Lib.hid hq; clear hq
      go_wp2_with fail
      refine(Qxf m hm0 hm1 _).mono ?_;rintro e w' ⟨rfl,hb⟩
      go_wp2_with fail
      go_ret2
      exact⟨Q61 (by rw[HR.out,HB.out,HC.out,if_pos HQ.out]; rfl) (by rw[HR.out,HB.out,HC.out,if_pos HQ.out]; rfl),hb⟩
     .have hqb:(Qyt m==s.toList)=false:=by rw[Lib.toList_data]; simpa using hq
      have HQ:=Lib.hid hq; clear hq
      go_wp2_with fail
      refine(Qxf m hm0 hm1 _).mono ?_;rintro e w' ⟨rfl,hb⟩
      go_wp2_with fail
      go_ret2
      exact⟨Q61 (by rw[HR.out,HB.out,HC.out,if_neg HQ.out]; rfl) (by rw[HR.out,HB.out,HC.out,if_neg HQ.out]; rfl),hb⟩
  .rw[decide_eq_false h45] at hr;simp only[Bool.false_eq_true,↓reduceIte] at hr;have HR:=Lib.hid hr; clear hr;have hb45:((s[0].toNat:Int)==45)=false:=by simpa using h45
   clear hneg hlen
   go_enter Tryz.func160,Tryz.ntmps160
   go_wp2_with fail
   go_loop [5,6] (λn i=>∃ (k:Nat) (m:Int),k<=s.size/\i = .int .i64 k/\n = .int .i64 m /\ -9223372036854775808<=m/\m<=9223372036854775807/\s.data.toList.all isD=(s.data.toList.drop k).all isD/\s.data.toList.foldl (Qz8 false) 0=(s.data.toList.drop k).foldl (Qz8 false) m) (λ_ i=>s.size-(intOf i).toNat)
   case atStart=>exact⟨0,0,by omega,rfl,rfl,by omega,by omega,rfl,rfl⟩
   case round =>
    obtain⟨k,m,hk,rfl,rfl,hm0,hm1,hal,hfo⟩:=hrel;have HA:=Lib.hid hal; clear hal;have HF:=Lib.hid hfo; clear hfo;by_cases hlt:k<s.size
    .have HS1:=Lib.hid (Qaps s k hlt);have HS2:=Lib.hid (Qama false s k hlt m);have hwr:=Q64 (wrap64 (10*m)+((s[k].toNat:Int)-48));have HW:=Lib.hid hwr; clear hwr;generalize hck:s[k]=c at HS1 HS2 HW;have hck2:s[k]=c:=hck;clear hck;by_cases hd:(48:Int)<=(c.toNat:Int)/\(c.toNat:Int)<=57
     .obtain⟨g1,g2⟩:=hd
      go_wp2
      go_round
      case rel=>exact⟨k+1,_,by omega,by go_num,rfl,HW.out.1,HW.out.2,by rw[HA.out,HS1.out,Q8i,decide_eq_true ⟨g1,g2⟩]; rfl,by rw[HF.out,HS2.out]; rfl⟩
      case measure=>simp[intOf]; omega
     .have hbad:s.data.toList.all isD=false:=by
       rw[HA.out,HS1.out,Q8i,decide_eq_false hd]; rfl
      have HB:=Lib.hid hbad; clear hbad
      go_wp2
      all_goals
       go_ret2
       exact⟨Q61 (by rw[HR.out,HB.out]; rfl) (by rw[HR.out,HB.out]; rfl),Below.refl _ _⟩
    .have hge:s.size<=k:=by omega
     have hz:s.data.toList.drop k=[]:=List.drop_of_length_le (by rw[<-Qnx]; exact hge);have hall:s.data.toList.all isD=true:=by rw[HA.out,hz]; rfl
     have hfin:s.data.toList.foldl (Qz8 false) 0=m:=by rw[HF.out,hz]; rfl
     clear hz;have HB:=Lib.hid hall; clear hall;have HC:=Lib.hid hfin; clear hfin;by_cases hq:Qyt m=s.data.toList
     .have hqb:(Qyt m==s.toList)=true:=by rw[Lib.toList_data]; simpa using hq
      have HQ:=Lib.hid hq; clear hq
      go_wp2_with fail
      refine(Qxf m hm0 hm1 _).mono ?_;rintro e w' ⟨rfl,hb⟩
      go_wp2_with fail
      go_ret2
      exact⟨Q61 (by rw[HR.out,HB.out,HC.out,if_pos HQ.out]; rfl) (by rw[HR.out,HB.out,HC.out,if_pos HQ.out]; rfl),hb⟩
     .have hqb:(Qyt m==s.toList)=false:=by rw[Lib.toList_data]; simpa using hq
      have HQ:=Lib.hid hq; clear hq
      go_wp2_with fail
      refine(Qxf m hm0 hm1 _).mono ?_;rintro e w' ⟨rfl,hb⟩
      go_wp2_with fail
      go_ret2
      exact⟨Q61 (by rw[HR.out,HB.out,HC.out,if_neg HQ.out]; rfl) (by rw[HR.out,HB.out,HC.out,if_neg HQ.out]; rfl),hb⟩
theorem Qajo(l:List UInt8)(hl:l.length<=9223372036854775807):PCall Tryz.prog 160 [sV l] (.tup [.p (iV (Q2a l).1),.p (bV (Q2a l).2)]):=by
 refine PCall.ofCallsG (R :=.tuple #[.int .i64 (Q2a l).1,.bool (Q2a l).2]) (by kernel_rfl) (λ_ _=>Qauq rfl rfl) λw us _ hs h=>?_
 obtain⟨a,rfl⟩:=us1 hs;obtain⟨_,h0'⟩:=h 0 _ a rfl rfl;rw[Qxe h0'];refine(Qaf0 ⟨l.toArray⟩ (by show l.toArray.size<=9223372036854775807; simpa using hl) w).mono λe w' h=>?_
 first | exact h | exact⟨h.1,Qys h.2⟩
end Go.Proofs.YtfgegilhjlnohaaGreat
end
