/- Part 11 of 12. -/
import Derived.Test.YtfgegilhjlnohaaGreatMgInferWide10
import Derived.Recover
import Derived.RecoverIn

noncomputable section
namespace Go.Proofs.YtfgegilhjlnohaaGreat
open Go.RowKit
set_option linter.unusedSimpArgs false
set_option linter.unusedVariables false
section
variable {P:Program} {tb:Tbl}
theorem Q9w{f:FuncId}{fn:Func}{c:Code}{us:Array Value}{G:Gh}{w:World}{B:Nat×Nat}{Q:Exit->St->Prop}{σ0:St}{R:Ending->World->Prop}{z:List UInt8}(hf:P.funcs[f]? = some fn)(hb:fn.body=some c)(h:T B P fn.ntmps c Q σ0)
  (hR:Rel fn.ntmps G σ0 { tmps:=us++Array.replicate (fn.ntmps-us.size) undef,defers:=[] } w)
  (hQ:∀ e G' σ' a' w', Ex B G w G' w' -> Rel fn.ntmps G' σ' a' w' -> Q e σ' -> e = .panic (Qle z)/\R (.panicked (Qle z)) w'):Calls P f us w R:=by
 refine callsIn_wide.1 (callsIn_of_wp_marks (F:=Fence.wide) (n:=0) hf hb trivial (wpIn_mono (h.out none ⟨w.heap.size,[]⟩ G _ w hR (.none rfl)) ?_));rintro e a' w' ⟨G', σ', hE,hR', hF', hq⟩;have key:∀ (Ds:List Nat) (w' : World),Ds.Nodup->Ex B G w G' w' -> Rel fn.ntmps G' σ' a' w' -> (∀ b ∈ Ds,w.heap.size<=b/\w'.heap[b]? = some (.deferred (some []))/\b ∉ G'.name/\∀ T ∈ G'.tok,¬ T.has b)->LeavesInM Fence.wide 0 P fn a'.tmps R (Ds.map Ql6) (.panicking (Qle z)) w' := by
  intro Ds
  induction Ds with
  | nil=>exact λw' _ hE hR' _=>(hQ e G' σ' a' w' hE hR' hq).2
  | cons b Ds ih =>
   intro w' hnd hE hR' hD;obtain⟨d1,d2,d3,d4⟩:=hD b (by simp);have hnb:¬ G'.has b:=λhh=>hh.elim d3 λ⟨T,hT,ht⟩=>d4 T hT ht
   have hk:Kept G'.has G'.com w' (w'.putObj b (.deferred none)):=Qgx _ d2 (Qsk d2) hnb;refine⟨by simp,.inl ⟨b,_,rfl,run_takeDeferred d2,ih _ (List.nodup_cons.1 hnd).2 (hE.kept hk λi hi=>World.putObj_heap_other (by omega)) (hR'.kept hk) λi hi=>?_⟩⟩;obtain⟨k1,k2,k3⟩:=hD i (by simp[hi]);refine⟨k1,?_,k3⟩;rw[World.putObj_heap_other (λ(e:i=b)=>(List.nodup_cons.1 hnd).1 (e ▸ hi))];exact k2
 obtain⟨Ds,m1,m2,m3⟩:=hF'.marks;have hl:=key Ds w' m2 hE hR' m3;rw[List.append_nil] at m1;rw[<-m1] at hl;obtain rfl:=(hQ e G' σ' a' w' hE hR' hq).1;exact hl
theorem CallPan.ofT{f:FuncId}{fn:Func}{c:Code}(hf:P.funcs[f]? = some fn)(hb:fn.body=some c)(hn:isFn P f=true){args:List D}(hN:args.length<=fn.ntmps){s s' : S}{z:List UInt8}
  (hs:s'.heap.all (λcs=>cs.all (D.lt s.heap.length s'.live.length))=true)
  (hn' : s'.heap.length=s.heap.length)
  (h:T (s.heap.length,s.live.length) P fn.ntmps c (λe σ => ∃ τ,Le (s.heap.length,s.live.length) fn.ntmps σ τ /\ (e = .panic (Qle z)/\EndR s.heap.length s.live.length s' .undef .undef τ.s)) ⟨Qsi args 0,s⟩):CallPan P f args s z s' := by
 refine⟨hn,λG w us hI hl hrel=>?_⟩;have hR:Rel fn.ntmps G ⟨Qsi args 0,s⟩ { tmps:=us++Array.replicate (fn.ntmps-us.size) undef,defers:=[] } w:=by
  refine⟨hI,λt d hd=>?_,by simp; omega⟩;obtain⟨h1,h2⟩:=Qm8 args 0 t d hd;have hlt:t<args.length:=(List.getElem?_eq_some_iff.1 h1).1;have hlt2:t<us.size:=by omega
  refine⟨by simp; omega,?_⟩;refine hrel t d _ h1 ?_;simp only[Array.getD_eq_getD_getElem?,Array.getElem?_append_left hlt2,Array.getElem?_eq_getElem hlt2,Option.getD_some]
 have hln:G.name.length=s.heap.length:=hI.names;have hlt:G.tok.length=s.live.length:=by rw[<-hI.live]; simp
 refine Q9w (z:=z) hf hb (T_up h λe σ' hq=>hq) hR λe G' σ' a' w' hE hR' hq=>?_
 obtain⟨he,⟨J,hJ0,h4,h5,h6⟩⟩:=hq;refine⟨he,?_⟩;unfold Qaco at hJ0;simp only[Bool.and_eq_true] at hJ0;obtain⟨⟨hJ1,hJ2⟩,hJ3⟩:=hJ0;have nJ:=Qc7 J hJ1;have bJ:=Qkd hJ2;have lT:G'.tok.length = σ'.s.live.length:=by have:=congrArg List.length hR'.inv.live; simpa using this
 have h7:=LeH.app h5 (LeH.refl (σ'.s.heap.drop s.heap.length));rw[List.take_append_drop] at h7;have hinv1:=Inv.le (h := σ'.s.heap) (live := σ'.s.live) hR'.inv h7;have hlen:(s'.heap.map λcs=>cs.map (D.ren (List.range s.heap.length) J)).length=s.heap.length:=by rw[List.length_map]; exact hn'
 have hlJ:J.length=s'.live.length:=by rw[<-h6]; simp
 have hnl:s.heap.length<=G'.name.length:=by rw[hinv1.names]; simp only[List.length_append,hlen]; omega
 have hinv2:Inv (G'.sub (List.range s.heap.length) J) ⟨s'.heap,s'.live⟩ w' := hinv1.sub (I:=List.range s.heap.length) (J:=J) List.nodup_range nJ (λi hi=>by have:=List.mem_range.1 hi; simp only[List.length_append,hlen]; omega) bJ (by
  have:=Qx6 (s'.heap.map λcs=>cs.map (D.ren (List.range s.heap.length) J)) (σ'.s.heap.drop s.heap.length) [];rw[hlen] at this;exact this) h6 (by rw[List.length_range,hlJ]; exact hs)
 have hst:Stp G w (G'.sub (List.range s.heap.length) J) w' := Qaep hE hln hlt hnl (λj hj=>by rw[lT]; exact bJ j hj) (by simpa using hJ3);exact⟨undef,_,rfl,hst,hinv2,.undef⟩
def CallS(P:Program)(f:FuncId)(args:List D)(s:S){A C:Type}(t:A->D)(ss:A->S)(zp:C->List UInt8)(sp:C->S):A⊕C->Prop
 | .inl y=>CallOK P f args s (t y) (ss y)
 | .inr y=>CallPan P f args s (zp y) (sp y)
theorem CallS.a{f:FuncId}{args:List D}{s:S}{A C:Type}{t:A->D}{ss:A->S}{zp:C->List UInt8}{sp:C->S}{y:A}(h:CallS P f args s t ss zp sp (.inl y)):CallOK P f args s (t y) (ss y):=h
theorem CallS.b{f:FuncId}{args:List D}{s:S}{A C:Type}{t:A->D}{ss:A->S}{zp:C->List UInt8}{sp:C->S}{y:C}(h:CallS P f args s t ss zp sp (.inr y)):CallPan P f args s (zp y) (sp y):=h
def retS(tb:Tbl)(rs:List ResultVar)(n m:Nat){A C:Type}(t:A->D)(ss:A->S)(zp:C->List UInt8)(sp:C->S)(o:A⊕C)(e:Exit)(τ : St):Prop :=
 match e with
 | .panic ch=>∃ y,o = .inr y/\ch=Qle (zp y)/\EndR n m (sp y) .undef .undef τ.s
 | .normal=>∃ y,o = .inl y/\retR tb rs (EndR n m (ss y) (t y)) .normal τ
 | .ret=>∃ y,o = .inl y/\retR tb rs (EndR n m (ss y) (t y)) .ret τ
 | _=>False
theorem CallS.ofB(hm:P.follows .mixedOrders=true)(hT:TblOk P tb){f:FuncId}{fn:Func}{c:Code}(lv:List (Nat×List Nat))(hf:P.funcs[f]? = some fn)(hb:fn.body=some c)(hn:isFn P f=true){args:List D}(hN:args.length<=fn.ntmps){s:S}{A C:Type}{t:A->D}{ss:A->S}{zp:C->List UInt8}{sp:C->S}{o:A⊕C}
  (hr:∀ y,(t y).lt s.heap.length (ss y).live.length=true) (hs:∀ y,(ss y).heap.all (λcs=>cs.all (D.lt s.heap.length (ss y).live.length))=true) (hn1:∀ y,(ss y).heap.length=s.heap.length)
  (hp:∀ y,(sp y).heap.all (λcs=>cs.all (D.lt s.heap.length (sp y).live.length))=true) (hn2:∀ y,(sp y).heap.length=s.heap.length)
  (h:bwp (s.heap.length,s.live.length) P tb fn.ntmps lv c (λe σ => ∃ τ,Le (s.heap.length,s.live.length) fn.ntmps σ τ /\ retS tb fn.results.toList s.heap.length s.live.length t ss zp sp o e τ) ⟨Qsi args 0,s⟩):CallS P f args s t ss zp sp o:=by
 have hTT:=Qaq hm hT c _ _ h;cases o with
 | inl y =>
  refine CallOK.ofT hT hf hb hn hN (hr y) (hs y) (hn1 y) (T_up hTT λe σ ⟨τ,h1,h2⟩=>⟨τ,h1,τ,Le.refl _ _ _,?_⟩);cases e with
  | normal=>obtain⟨y', e,h3⟩:=h2; cases e; exact h3
  | ret=>obtain⟨y', e,h3⟩:=h2; cases e; exact h3
  | panic ch=>obtain⟨y', e,h3⟩:=h2; cases e
  | _=>exact h2.elim
 | inr y =>
  refine CallPan.ofT hf hb hn hN (hp y) (hn2 y) (T_up hTT λe σ ⟨τ,h1,h2⟩=>⟨τ,h1,τ,Le.refl _ _ _,?_⟩);cases e with
  | normal=>obtain⟨y', e,h3⟩:=h2; cases e
  | ret=>obtain⟨y', e,h3⟩:=h2; cases e
  | panic ch=>obtain⟨y', e,h3,h4⟩:=h2; cases e; exact⟨by rw[h3],h4⟩
  | _=>exact h2.elim
theorem Q9x{A C:Type}{x:A}{y:A⊕C}{d:D}{u:S}{n m:Nat}{t:A->D}{ss:A->S}(h:some (.inl x)=some y)(k:EndR n m (ss x) (t x) d u):∃ z,y = .inl z/\EndR n m (ss z) (t z) d u:=by cases h; exact⟨x,rfl,k⟩
theorem Qafy{A C:Type}{x:C}{y:A⊕C}{u:S}{n m:Nat}{zp:C->List UInt8}{sp:C->S}{v:List UInt8}(h:some (.inr x)=some y)(hv:v=zp x)(k:EndR n m (sp x) .undef .undef u):∃ z,y = .inr z/\Qle v=Qle (zp z)/\EndR n m (sp z) .undef .undef u:=by cases h; exact⟨x,rfl,by rw[hv],k⟩
theorem Qud{A C R:Type}{x:Option (A⊕C)}{f:A⊕C->Option R}{r:R}{g:FuncId}{args:List D}{s:S}(t:A->D)(ss:A->S)(zp:C->List UInt8)(sp:C->S){K:D->S->Prop}{KP:List UInt8->S->Prop}(h:(x>>=f)=some r)
  (hok:∀ y,x=some (.inl y)->CallOK P g args s (t y) (ss y)) (hpan:∀ y,x=some (.inr y)->CallPan P g args s (zp y) (sp y))
  (k:∀ y,x=some (.inl y)->f (.inl y)=some r->K (t y) (ss y)) (kp:∀ y,x=some (.inr y)->f (.inr y)=some r->KP (zp y) (sp y)) :
  (∃ r s', Q8h true P g args s r s' /\ K r s')\/(∃ z s', CallPan P g args s z s' /\ KP z s'):=by
 cases hx:x with
 | none=>rw[hx] at h; cases h
 | some o =>
  rw[hx] at h;cases o with
  | inl y=>exact .inl ⟨t y,ss y,(hok y hx).g,k y hx h⟩
  | inr y=>exact .inr ⟨zp y,sp y,hpan y hx,kp y hx h⟩
end
section
variable {P:Program} {tb:Tbl}
theorem Qabr(hT:TblOk P tb){fn:Func}{C:Nat->Nat->Prop}{w w' : World}{G' : Gh}{σ' : St}{a' : Act}(hE:Ex (0,0) ⟨λb o=>C b o/\b<w.heap.size,[],[]⟩ w G' w')(hR' : Rel fn.ntmps G' σ' a' w'){r:D}
  (hq:Qgh tb σ' fn.results.toList λds=>match retD ds with | some d=>LeD d r | none=>False) :
  ∃ v,(results fn a'.tmps).run P w' = .ok v w' /\ DRel ⟨λb o=>C b o\/w.heap.size<=b,[],[]⟩ w' r v/\Below w.heap.size w w' := by
 obtain⟨ds,us', h1,h2,h3,h4⟩:=Qfp hT hR' _ _ hq;split at h4
 .rename_i d hd;obtain⟨k1,k2⟩:=Q2y h2 h3 hd;refine⟨if h:us'.toArray.size=1 then us'.toArray[0] else .tuple us'.toArray,?_,DRel.le ?_ h4,⟨hE.ext.os,hE.ext.tape,hE.ext.output,hE.ext.size,λk hk=>hE.ext.old k hk (by simp) (by simp)⟩⟩
  .unfold results;rw[Sem.run_bind,Array.mapM_eq_mapM_toList,Sem.run_map]
   erw [h1]
   rfl
  .have hcom:∀ b o,G'.com b o->C b o\/w.heap.size<=b:=λb o hc=>by
    rcases hE.ext.new b o hc with h | h | h | ⟨T,h,_⟩
    .exact .inl h.1
    .exact .inr h
    .simp at h
    .simp at h
   rcases k2 with ⟨x,rfl⟩ | ⟨xs,rfl⟩
   .generalize (if h:us'.toArray.size=1 then us'.toArray[0] else Value.tuple us'.toArray)=q at k1;cases k1 with
    | p _ _ k1=>exact .p _ _ (k1.mono (Nat.le_refl _) λb o u h1 h2=>⟨hcom b o h1,h2⟩)
   .generalize (if h:us'.toArray.size=1 then us'.toArray[0] else Value.tuple us'.toArray)=q at k1;cases k1 with
    | tup _ vs l1 l2 =>
     refine .tup _ _ l1 (λj c u hc hu=>?_);have:=l2 j c u hc hu;rw[List.getElem?_map] at hc;obtain⟨x,-,rfl⟩:=Option.map_eq_some_iff.1 hc;cases this with
     | p _ _ k1=>exact .p _ _ (k1.mono (Nat.le_refl _) λb o u h1 h2=>⟨hcom b o h1,h2⟩)
 .exact h4.elim
theorem PCall.ofW{f:FuncId}{fn:Func}{c:Code}(hf:P.funcs[f]? = some fn)(hb:fn.body=some c)(hn:isFn P f=true){args:List V}(hN:args.length<=fn.ntmps){r:D}
  (h:∀ (C:Nat->Nat->Prop) (w:World) (a:Act) (R:Ending->World->Prop),(∀ v w', DRel ⟨λb o=>C b o\/w.heap.size<=b,[],[]⟩ w' r v->Below w.heap.size w w' -> R (.returned v) w') ->
   Rel fn.ntmps ⟨λb o=>C b o/\b<w.heap.size,[],[]⟩ ⟨Qv7 args 0,⟨[],[]⟩⟩ a w->a.defers=[]->c.wpIn Fence.wide 0 P (bodyPostM Fence.wide 0 P fn R) a w):PCall P f args r:=by
 refine⟨hn,λC w us hgl hl hrel=>?_⟩;have hR:Rel fn.ntmps ⟨λb o=>C b o/\b<w.heap.size,[],[]⟩ ⟨Qv7 args 0,⟨[],[]⟩⟩ { tmps:=us++Array.replicate (fn.ntmps-us.size) undef,defers:=[] } w:=by
  refine⟨⟨λb o h=>⟨h.2,by simp,by simp⟩,rfl,by simp,λi b cs h=>by simp at h,rfl,λt T b h=>by simp at h,λT h=>by simp at h,hgl.mono λb o u h1 h2=>⟨⟨h1,Qxe h2⟩,h2⟩⟩,λt d hd=>?_,by simp; omega⟩;obtain⟨x,h1,h2,rfl⟩:=Qq3 args 0 t d hd;have hlt:t<args.length:=(List.getElem?_eq_some_iff.1 h1).1;have hlt2:t<us.size:=by omega
  refine⟨by simp; omega,.p x _ (DRel.lt ?_)⟩;refine hrel t x _ h1 ?_;simp only[Array.getD_eq_getD_getElem?,Array.getElem?_append_left hlt2,Array.getElem?_eq_getElem hlt2,Option.getD_some]
 exact callsIn_wide.1 (callsIn_of_wp_marks (F:=Fence.wide) (n:=0) hf hb trivial (h C w _ _ (λv w' h1 h2=>⟨v,rfl,h1,h2⟩) hR rfl))
theorem Que{fn:Func}{a:Act}{G:Gh}{σ : St}{R:Ending->World->Prop}{db:List Deferred}{u:FrameMode}(hu:u ≠ .run){lo:Nat}{B:Nat×Nat}{G0:Gh}{w0:World}
  (h:∀ w', Ex B G0 w0 G w' -> Rel fn.ntmps G σ a w' -> LeavesInM Fence.wide 0 P fn a.tmps R db u w') {w:World} (hF:Fr none ⟨lo,db⟩ G a w) (hlo:w0.heap.size<=lo) (hE:Ex B G0 w0 G w) (hR:Rel fn.ntmps G σ a w):LeavesInM Fence.wide 0 P fn a.tmps R a.defers u w:=by
 have key:∀ (Ds:List Nat) (w' : World),Ds.Nodup->Ex B G0 w0 G w' -> Rel fn.ntmps G σ a w' -> (∀ b ∈ Ds,lo<=b/\w'.heap[b]? = some (.deferred (some []))/\b ∉ G.name/\∀ T ∈ G.tok,¬ T.has b)->LeavesInM Fence.wide 0 P fn a.tmps R (Ds.map Ql6++db) u w' := by
  intro Ds
  induction Ds with
  | nil=>exact λw' _ hE hR' _=>h w' hE hR'
  | cons b Ds ih =>
   intro w' hnd hE hR' hD;obtain⟨d1,d2,d3,d4⟩:=hD b (by simp);have hnb:¬ G.has b:=λhh=>hh.elim d3 λ⟨T,hT,ht⟩=>d4 T hT ht
   have hk:Kept G.has G.com w' (w'.putObj b (.deferred none)):=Qgx _ d2 (Qsk d2) hnb;refine⟨hu,.inl ⟨b,_,rfl,run_takeDeferred d2,ih _ (List.nodup_cons.1 hnd).2 (hE.kept hk λi hi=>World.putObj_heap_other (by omega)) (hR'.kept hk) λi hi=>?_⟩⟩;obtain⟨k1,k2,k3⟩:=hD i (by simp[hi]);refine⟨k1,?_,k3⟩;rw[World.putObj_heap_other (λ(e:i=b)=>(List.nodup_cons.1 hnd).1 (e ▸ hi))];exact k2
 obtain⟨Ds,m1,m2,m3⟩:=hF.marks;have hl:=key Ds w m2 hE hR m3;rw[<-m1] at hl;exact hl
def Qaj4(hid:Nat):Code->Bool
 | .region id _ _=>id==hid
 | _=>false
def bwpH(B:Nat×Nat)(P:Program)(tb:Tbl)(N:Nat)(lv:List (Nat×List Nat))(hid:Nat):Code->(Exit->St->Prop)->(St->Prop)->St->Prop
 | .seq x y,Q,K,σ => match Qaj4 hid x with
  | true=>K σ
  | false=>bwp B P tb N lv x (λe σ' => match e with | .normal=>bwpH B P tb N lv hid y Q K σ' | e=>Q e σ') σ
 | c,Q,_,σ => bwp B P tb N lv c Q σ
def Q9y(hid:Nat):Code->Code
 | .seq x y=>match Qaj4 hid x with
  | true =>.seq x y
  | false=>Q9y hid y
 | c=>c
theorem Qac7(hm:P.follows .mixedOrders=true)(hT:TblOk P tb){B:Nat×Nat}{N:Nat}{lv:List (Nat×List Nat)}{hid:Nat}{Post:Exit->Act->World->Prop}{rd:Option Nat}{lo:Lo}{G0:Gh}{w0:World}{Q:Exit->St->Prop}{K:St->Prop}
  (hQ:∀ e G' σ' a' w', Ex B G0 w0 G' w' -> Rel N G' σ' a' w' -> Fr rd lo G' a' w' -> Q e σ' -> Post e a' w') :
  ∀ (c:Code) (σ : St) (G:Gh) (a:Act) (w:World),bwpH B P tb N lv hid c Q K σ -> Ex B G0 w0 G w->Rel N G σ a w->Fr rd lo G a w ->
   (∀ G' σ' a' w', Ex B G0 w0 G' w' -> Rel N G' σ' a' w' -> Fr rd lo G' a' w' -> K σ' -> (Q9y hid c).wpIn (FW rd) 0 P Post a' w')->c.wpIn (FW rd) 0 P Post a w:=by
 have base:∀ (c:Code) (σ : St) (G:Gh) (a:Act) (w:World),bwp B P tb N lv c Q σ -> Ex B G0 w0 G w->Rel N G σ a w->Fr rd lo G a w->c.wpIn (FW rd) 0 P Post a w:=λc σ G a w h hE hR hF =>
  wpIn_mono ((Qaq hm hT c _ _ h).out rd lo G a w hR hF) λe a' w' ⟨G', σ', e1,r1,f1,q1⟩=>hQ e G' σ' a' w' (hE.trans e1) r1 f1 q1
 intro c
 induction c with
 | seq x y ihx ihy =>
  intro σ G a w h hE hR hF hK;unfold bwpH at h;unfold Q9y at hK;cases hx:Qaj4 hid x with
  | true =>
   rw[hx] at h hK;exact hK G σ a w hE hR hF h
  | false =>
   rw[hx] at h hK;refine wpIn_seq (wpIn_mono ((Qaq hm hT x _ _ h).out rd lo G a w hR hF) λe a' w' ⟨G', σ', e1,r1,f1,q1⟩=>?_);cases e with
   | normal=>exact ihy σ' G' a' w' q1 (hE.trans e1) r1 f1 hK
   | exit id=>exact hQ _ G' σ' a' w' (hE.trans e1) r1 f1 q1
   | goto l=>exact hQ _ G' σ' a' w' (hE.trans e1) r1 f1 q1
   | ret=>exact hQ _ G' σ' a' w' (hE.trans e1) r1 f1 q1
   | panic ch=>exact hQ _ G' σ' a' w' (hE.trans e1) r1 f1 q1
   | outgrown=>exact hQ _ G' σ' a' w' (hE.trans e1) r1 f1 q1
 | _=>intro σ G a w h hE hR hF hK; exact base _ σ G a w h hE hR hF
theorem Q2d(hT:TblOk P tb){B:Nat×Nat}{N id:Nat}{ops:Array Oper}{Q:Exit->St->Prop}{σ : St}(h:bwp B P tb N [] (.region id ops false) Q σ){rd:Option Nat}{G:Gh}{a:Act}{w:World}(hR:Rel N G σ a w) :
  (Code.region id ops false).wpIn (FW rd) 0 P (λe a' w' => ∃ G' σ', Ex B G w G' w' /\ Rel N G' σ' a' w' /\ a'.defers=a.defers/\Q e σ') a w:=by
 have h:rwp P tb N [] id ops false (Q .normal) σ := h;unfold rwp at h;rw[Q2x] at h;have h:bOps true P tb N ops.toList (List.range ops.toList.length) σ λσ' => Q .normal (keep none σ'):=h
 have hops:ops.toList.toArray=ops:=by simp
 refine wpIn_region ?_;have:=Qq4 hT (rd:=rd) (ops:=ops.toList) (Q:=λe a' w' => ∃ G' σ', Ex B G w G' w' /\ Rel N G' σ' a' w' /\ a'.defers=a.defers/\Q e σ') (G0:=G) (w0:=w) (ds:=a.defers) (λa' w' G' σ' hE hR' hd hK=>⟨G', _,hE,Qf6 hR' _,hd,hK⟩) _ σ a w G (.refl B G w) hR rfl h;rw[hops] at this;simpa using this
theorem Q2e{G:Gh}{w:World}{a:Act}:EnvRel G w [] a:=λt d h=>by simp at h
theorem Qjb{G:Gh}{w:World}{a:Act}{t:Nat}{d:D}{env:List (Nat×D)}(h:t<a.tmps.size/\DRel G w d (a.tmps.getD t undef))(k:EnvRel G w env a):EnvRel G w ((t,d)::env) a:=λt' d' hl=>by
 rw[List.lookup_cons] at hl;split at hl
 .rename_i he;cases hl;have:t' = t:=by simpa using he
  subst this;exact h
 .exact k t' d' hl
end
def sndC:Code->Code
 | .seq _ y=>y
 | c=>c
def fstC:Code->Code
 | .seq x _=>x
 | c=>c
def Qabs:Code->Array Oper
 | .region _ ops _=>ops
 | _ => #[]
def Q9z:Array Oper:=Qabs (fstC (sndC (sndC (Tryz.f66.body.getD .skip))))
def infY:Code:=sndC (sndC (sndC (Tryz.f66.body.getD .skip)))
def Qanr:Array Oper:=Qabs (fstC (fstC infY))
def Qans:Array Oper:=Qabs (sndC infY)
theorem Q90(u0 u1:Value)(w:World){R:Ending->FrameMode->World->Prop}(h:R (.returned (.tuple #[])) .returning w) :
  CallsDIn Fence.wide 0 Tryz.prog 66 #[u0,u1] .returning w R:=by
 refine callsDIn_of_wpSIn Tryz.func66 rfl trivial λc₀ cs hu=>?_
 apply wpSIn_seq;apply wpSIn_region;simp[wpOpsSIn,go_sem,recoverD,hu,Tryz.ntmps66,Exit.thenS];apply wpSIn_seq;apply wpSIn_seq;apply wpSIn_region;simp[wpOpsSIn,go_sem,Exit.thenS];refine wpSIn_cond (t:=true) (by simp[Act.eval,Array.replicate]) ?_;simp only[if_true];refine wpSIn_of_wpIn rfl (wpIn_ret ?_);cases c₀;simp_all [bodyPostS,results,Tryz.results66,Exit.thenS]
theorem Qahq(z:List UInt8)(w:World):(Instr.typeAssert (.iface 88 (.agg #[Qd1 z])) 20 88 true).run Tryz.prog w = .ok (.tuple #[.agg #[Qd1 z],.bool true]) w:=by
 kernel_rfl
theorem Qac8(u0 u1:Value)(z:List UInt8)(w:World){R:Ending->FrameMode->World->Prop}
  (h5:∀ (Q:Exit->Act->World->Prop) (a:Act),a.tmps.size=18->a.tmps[0]? = some u0->a.tmps[1]? = some u1->a.tmps[11]? = some (.agg #[Qd1 z])->a.tmps[12]? = some (.bool true)->a.defers=[] ->
   (∀ a2 w2,infY.wpIn Fence.wide 0 Tryz.prog (λe a3 w3=>e = .normal/\a3.defers=[]/\R (.returned (.tuple #[])) (.panicking [{ v :=.iface 88 (.agg #[Qd1 z]),recovered:=true }]) w3) a2 w2->Q .normal a2 w2) ->
   wpOpsIn Fence.wide 0 Tryz.prog Q9z Q [5,6,7] a w) :
  CallsDIn Fence.wide 0 Tryz.prog 66 #[u0,u1] (.panicking (Qle z)) w R:=by
 refine callsDIn_of_wpSIn Tryz.func66 rfl trivial λc₀ cs hu=>?_
 apply wpSIn_seq;apply wpSIn_region;simp[wpOpsSIn,go_sem,recoverD,hu,Qle,Tryz.ntmps66,Exit.thenS];apply wpSIn_seq;apply wpSIn_seq;apply wpSIn_region;simp[wpOpsSIn,go_sem,Exit.thenS];refine wpSIn_cond (t:=false) (by simp[Act.eval,Array.replicate]) ?_;simp only[Bool.false_eq_true,if_false];refine wpSIn_of_wpIn rfl (wpIn_skip ?_);simp only[Exit.thenS];refine wpSIn_of_wpIn rfl (wpIn_seq (wpIn_region ?_));obtain⟨L,hL⟩:∃ L,L=[5,6,7]:=⟨_,rfl⟩;show wpOpsIn Fence.wide 0 Tryz.prog Q9z _ (0::1::2::3::4::[5,6,7]) _ _;rw[<-hL];simp[Q9z,Qabs,fstC,sndC,Tryz.f66,wpOpsIn,go_sem,Qahq];subst hL;refine h5 _ _ ?_ ?_ ?_ ?_ ?_ rfl ?_
 .simp
 .simp
 .simp
 .simp
 .simp
 intro a2 w2 h;refine wpIn_mono h ?_;rintro e a3 w3 ⟨rfl,hd,hr⟩;refine⟨hd,.panicking [{ v :=.iface 88 (.agg #[Qd1 z]),recovered:=true }],rfl,.tuple #[],?_,hr⟩;exact results_none rfl _ _ _
theorem Q91(a:Act)(w:World)(hs:a.tmps.size=42){Post:Exit->Act->World->Prop} (h:(sndC (Q9y 7 (Tryz.f35.body.getD .skip))).wpIn Fence.wide 0 Tryz.prog Post
  { tmps:=a.tmps.setIfInBounds 30 (.func (.func 66) #[] #[a.tmps.getD 6 undef,a.tmps.getD 7 undef]),defers:={ target :=.fn (.func 66) #[a.tmps.getD 6 undef,a.tmps.getD 7 undef],args := #[] }::a.defers } w) :
  (Q9y 7 (Tryz.f35.body.getD .skip)).wpIn Fence.wide 0 Tryz.prog Post a w:=by
 refine wpIn_seq (wpIn_region ?_);obtain⟨X,hX⟩:∃ X,X=sndC (Q9y 7 (Tryz.f35.body.getD .skip)):=⟨_,rfl⟩;rw[<-hX] at h;simp[hs] at h;rw[hX] at h;simp[wpOpsIn,go_sem,hs];exact h
def infQ (r:D) (e:Exit) (τ : St):Prop:=match e with
 | .ret=>Qgh tb τ Tryz.f35.results.toList λds=>match retD ds with | some d=>LeD d r | none=>False
 | .panic ch=>∃ z,ch=Qle z /\ τ.env.lookup 6=some (.ptr 0 0) /\ τ.env.lookup 7=some (.ptr 1 0) /\ τ.s.heap.length=4 /\ τ.s.live.length=0 /\
  bOps true Tryz.prog tb 18 Q9z.toList [5,6,7] ⟨[(0,.ptr 0 0),(1,.ptr 1 0),(11,.p (.agg [sV z])),(12,.p (bV true))],τ.s⟩ λυ => bwp (4,0) Tryz.prog tb 18 [] (.region 3 Qanr false) (λe χ => e = .normal/\ev χ.env (.tmp 14)=some (.p (bV false)) /\
   bwp (4,0) Tryz.prog tb 18 [] (.region 5 Qans false) (λe ψ => e = .normal/\Qgh tb ⟨[(6,.ptr 0 0),(7,.ptr 1 0)],ψ.s⟩ Tryz.f35.results.toList λds=>match retD ds with | some d=>LeD d r | none=>False) χ) υ
 | _=>False
def infK (lv:List (Nat×List Nat)) (r:D) (σ : St):Prop :=
 σ.env.lookup 6=some (.ptr 0 0) /\ σ.env.lookup 7=some (.ptr 1 0) /\ σ.env.lookup 30=none /\ σ.s.heap.length=2 /\ σ.s.live.length=0 /\
  bwp (2,0) Tryz.prog tb 42 lv (sndC (Q9y 7 (Tryz.f35.body.getD .skip))) (infQ r) σ
theorem Qafz{args:List V}(hargs:args.length=3){r:D}{lv:List (Nat×List Nat)}
  (h:bwpH (0,0) Tryz.prog tb 42 lv 7 (Tryz.f35.body.getD .skip) (retQ tb Tryz.f35.results.toList λd=>LeD d r) (infK lv r) ⟨Qv7 args 0,⟨[],[]⟩⟩):PCall Tryz.prog 35 args r:=by
 refine PCall.ofW Tryz.func35 rfl (by kernel_rfl) (by rw[hargs]; exact Nat.le_of_ble_eq_true rfl) λC w a R hRR hR hd=>?_
 refine Qac7 (rd:=none) (lo:=⟨w.heap.size,[]⟩) (w0:=w) mixed tbOk (Q:=retQ tb Tryz.f35.results.toList λd=>LeD d r) (K:=infK lv r) (λe G' σ' a' w' hE hR' hF' hq=>?_) _ _ _ a w h (.refl _ _ w) hR (.none hd) ?_
 .have key:∀ (hq:Qgh tb σ' Tryz.f35.results.toList λds=>match retD ds with | some d=>LeD d r | none=>False),LeavesInM Fence.wide 0 Tryz.prog Tryz.f35 a'.tmps R a'.defers .returning w' := λhq =>
   Que (u :=.returning) (by simp) (λw3 hE3 hR3=>by
    obtain⟨v,h1,h2,h3⟩:=Qabr tbOk hE3 hR3 hq;exact⟨v,h1,hRR v w3 h2 h3⟩) hF' (Nat.le_refl _) hE hR'
  cases e with
  | normal=>exact key hq
  | ret=>exact key hq
  | _=>exact hq.elim
 .rintro G1 σ1 a1 w1 hE1 hR1 hF1 ⟨k6,k7,k30,hl,hv,hb⟩;have v6:=hR1.env 6 _ k6;have v7:=hR1.env 7 _ k7;refine Q91 a1 w1 hR1.size ?_;obtain⟨Ds0,m1,m2,m3⟩:=hF1.marks;rw[List.append_nil] at m1;rw[m1];generalize hu6:a1.tmps.getD 6 undef=u6 at v6 ⊢;generalize hu7:a1.tmps.getD 7 undef=u7 at v7 ⊢;have hn1:G1.name.length=2:=hR1.inv.names.trans hl;have ht1:G1.tok.length=0:=by have:=congrArg List.length hR1.inv.live; simp at this; omega
  obtain⟨d,hdd⟩:∃ d:Deferred,d={ target :=.fn (.func 66) #[u6,u7],args := #[] }:=⟨_,rfl⟩;rw[<-hdd];generalize hfv:(Value.func (Fn.func 66) #[] #[u6,u7])=fv;have ek:∀ t,t≠30->(a1.tmps.setIfInBounds 30 fv).getD t undef=a1.tmps.getD t undef:=λt ht=>by
   simp only[Array.getD_eq_getD_getElem?,Array.getElem?_setIfInBounds,if_neg (λe:30=t=>ht e.symm)]
  have es:∀ {t:Nat},t<a1.tmps.size->t<(a1.tmps.setIfInBounds 30 fv).size:=λh=>by simpa using h
  have hRr:Rel Tryz.f35.ntmps G1 σ1 { tmps:=a1.tmps.setIfInBounds 30 fv,defers:=d::Ds0.map Ql6 } w1 :=
   ⟨hR1.inv,λt x hx=>by
    have ht:t≠30:=λe=>by rw[e,k30] at hx; cases hx
    have:=hR1.env t x hx;exact⟨es this.1,by rw[ek t ht]; exact this.2⟩,by simpa using hR1.size⟩
  have hFr:Fr none ⟨w1.heap.size,d::Ds0.map Ql6⟩ G1 { tmps:=a1.tmps.setIfInBounds 30 fv,defers:=d::Ds0.map Ql6 } w1:=⟨⟨[],rfl,List.nodup_nil,λ_ h=>(nomatch h)⟩,λ_ h=>(nomatch h),Nat.le_refl _⟩;refine wpIn_mono ((Qaq mixed tbOk _ _ _ hb).out none ⟨w1.heap.size,d::Ds0.map Ql6⟩ G1 _ w1 hRr hFr) ?_;rintro e a2 w2 ⟨G2,σ2,hE2,hR2,hF2,hq2⟩;have fin:∀ (G4:Gh) (τ : St) (w4:World),Ex (2,0) G1 w1 G4 w4->Rel Tryz.f35.ntmps G4 τ a2 w4->(Qgh tb τ Tryz.f35.results.toList λds=>match retD ds with | some d=>LeD d r | none=>False) ->
    LeavesInM Fence.wide 0 Tryz.prog Tryz.f35 a2.tmps R (Ds0.map Ql6) .returning w4:=λG4 τ w4 hE4 hR4 hq=>by
   refine Que (a:={ a2 with defers:=Ds0.map Ql6 }) (lo:=w.heap.size) (db:=[]) (σ := τ) (u :=.returning) (B:=(0,0)) (w0:=w) (by simp) (λw5 hE5 hR5=>?_) ⟨⟨Ds0,(List.append_nil _).symm,m2,λb hb=>⟨(m3 b hb).1,hE4.ext.stays (m3 b hb).2.1 (m3 b hb).2.2.1 (m3 b hb).2.2.2⟩⟩,λ_ h=>(nomatch h),Nat.le_trans hF1.size hE4.ext.size⟩ (Nat.le_refl _) (hE1.trans (hE4.le (Nat.zero_le _) (Nat.zero_le _))) ⟨hR4.inv,hR4.env,hR4.size⟩;obtain⟨v,h1,h2,h3⟩:=Qabr tbOk hE5 hR5 hq;exact⟨v,h1,hRR v w5 h2 h3⟩
  have inv0:∀ w3:World,(invoke d.target d.args).run Tryz.prog w3 = .ok (.enter 66 #[u6,u7]) w3:=λw3=>by subst hdd; simp[go_sem]
  cases e with
  | ret =>
   refine Que (u :=.returning) (B:=(2,0)) (by simp) (λw3 hE3 hR3=>?_) hF2 (Nat.le_refl _) hE2 hR2;refine⟨by simp,.inr ⟨λh=>(nomatch h),_,_,66,#[u6,u7],by rw[hdd],inv0 w3,λ_ _=>trivial,?_⟩⟩;exact Q90 u6 u7 w3 (fin G2 σ2 w3 hE3 hR3 hq2)
  | panic ch =>
   obtain⟨z,rfl,l6,l7,hl2,hv2,hc⟩:=hq2;refine Que (u :=.panicking (Qle z)) (B:=(2,0)) (by simp) (λw3 hE3 hR3=>?_) hF2 (Nat.le_refl _) hE2 hR2;refine⟨by simp,.inr ⟨λh=>(nomatch h),_,_,66,#[u6,u7],by rw[hdd],inv0 w3,λ_ _=>trivial,?_⟩⟩;refine Qac8 u6 u7 z w3 λQ a hsz t0 t1 t11 t12 hd' hQ=>?_
   have hI3:=hR3.inv;have hst:Stp G1 w1 G2 w3:=hE3.stp (by omega) (by omega);have eg:∀ {t:Nat} {u:Value},a.tmps[t]? = some u->a.tmps.getD t undef=u:=λh=>by simp only[Array.getD_eq_getD_getElem?,h,Option.getD_some]
   have hn2:G2.name.length=4:=hI3.names.trans hl2;have ht2:G2.tok.length=0:=by have:=congrArg List.length hI3.live; simp at this; omega
   have hRc:Rel 18 G2 ⟨[(0,.ptr 0 0),(1,.ptr 1 0),(11,.p (.agg [sV z])),(12,.p (bV true))],σ2.s⟩ a w3 :=
    ⟨hI3,Qjb ⟨by omega,by rw[eg t0]; exact v6.2.mono hst⟩ (Qjb ⟨by omega,by rw[eg t1]; exact v7.2.mono hst⟩ (Qjb ⟨by omega,by
     rw[eg t11];refine .p _ _ (.agg [sV z] #[Qd1 z] rfl (λj c u hc hu=>?_) λj c u hc hu=>?_)
     .match j,hu with
      | 0,hu=>cases hu; rfl
     .match j,hc,hu with
      | 0,hc,hu=>cases hc; cases hu; exact .v _ rfl⟩ (Qjb ⟨by omega,by rw[eg t12]; exact .p _ _ (.v _ rfl)⟩ Q2e))),hsz⟩
   have hops:Q9z.toList.toArray=Q9z:=by simp
   have:=Qq4 tbOk (rd:=none) (ops:=Q9z.toList) (Q:=Q) (B:=(4,0)) (G0:=G2) (w0:=w3) (ds:=a.defers) (λa' w' G' σ' hE' hR' hd2 hK=>hQ a' w' (wpIn_seq (wpIn_seq (wpIn_mono (Q2d (rd:=none) tbOk hK hR') ?_)))) [5,6,7] _ a w3 G2 (.refl (4,0) G2 w3) hRc rfl hc
   .rw[hops] at this;exact this
   .rintro e a4 w4 ⟨G4,σ4,hE4,hR4,hd4,rfl,h14,hq4⟩;have e14:a4.eval (.tmp 14) = .bool false:=by
     have:=Qrz hR4.env _ _ h14;generalize a4.eval (.tmp 14)=q at this;cases this with
     | p _ _ k=>cases k; rfl
    refine wpIn_cond (t:=false) e14 ?_;simp only[Bool.false_eq_true,if_false];refine wpIn_skip ?_;simp only[Exit.then];refine wpIn_mono (Q2d (rd:=none) tbOk hq4 hR4) ?_;rintro e a5 w5 ⟨G5,σ5,hE5,hR5,hd5,rfl,hq5⟩;refine⟨rfl,hd5.trans (hd4.trans (hd2.trans hd')),?_⟩;have hE6:Ex (4,0) G2 w3 G5 w5:=(hE'.trans hE4).trans hE5;have hst5:Stp G2 w3 G5 w5:=hE6.stp (by omega) (by omega);have x6:=hR3.env 6 _ l6;have x7:=hR3.env 7 _ l7;exact fin G5 ⟨[(6,.ptr 0 0),(7,.ptr 1 0)],σ5.s⟩ w5 (hE3.trans (hE6.le (by decide) (by decide))) ⟨hR5.inv,Qjb ⟨x6.1,x6.2.mono hst5⟩ (Qjb ⟨x7.1,x7.2.mono hst5⟩ Q2e),hR3.size⟩ hq5
  | _=>exact hq2.elim
def kn:List (List UInt8):=[[],[116,101,120,116],[110,117,109,98,101,114],[116,114,117,116,104],[112,97,105,114],[97,108,101,114,116],[103,114,111,117,112],[116,101,120,116,115],[112,97,105,114,115],[97,108,101,114,116,115]]
def Qwl(k:Int):List UInt8:=if k<0\/10<=k then [] else kn.getD k.toNat []
theorem Qaj5(n:Nat)(hn:n<10):([Value.string { data := #[] },Value.string { data := #[116,101,120,116] },Value.string { data := #[110,117,109,98,101,114] },Value.string { data := #[116,114,117,116,104] },Value.string { data := #[112,97,105,114] },Value.string { data := #[97,108,101,114,116] },Value.string { data := #[103,114,111,117,112] },Value.string { data := #[116,101,120,116,115] },Value.string { data := #[112,97,105,114,115] },Value.string { data := #[97,108,101,114,116,115] }]:List Value)[n]'hn = .string ⟨(Qwl n).toArray⟩:=by
 match n,hn with
 | 0,_=>rfl
 | 1,_=>rfl
 | 2,_=>rfl
 | 3,_=>rfl
 | 4,_=>rfl
 | 5,_=>rfl
 | 6,_=>rfl
 | 7,_=>rfl
 | 8,_=>rfl
 | 9,_=>rfl
 | n+10,h=>omega
set_option maxHeartbeats 2000000 in
theorem Qahr(k:Int)(w:World) :
  Calls Tryz.prog 118 #[.int .i64 k] w λe w' => e = .returned (.string ⟨(Qwl k).toArray⟩)/\Below w.heap.size w w' := by
 by_cases h:k<0\/10<=k
 .have hr:Qwl k=[]:=by rw[Qwl,if_pos h]
  rw[hr]; clear hr
  go_enter Tryz.func118,Tryz.ntmps118
  go_wp2
  all_goals
   go_ret
   exact⟨rfl,(Below.refl _ _).alloc (Nat.le_refl _) _⟩
 .obtain⟨n,rfl⟩:=Int.eq_ofNat_of_zero_le (by omega:0<=k);have hn:n<10:=by omega
  have hx:=Qaj5 n hn;clear h
  go_enter Tryz.func118,Tryz.ntmps118
  go_wp2
  all_goals
   go_ret
   exact⟨rfl,(Below.refl _ _).alloc (Nat.le_refl _) _⟩
theorem Qahs(k:Int):PCall Tryz.prog 118 [.v (.int .i64 k)] (.p (sV (Qwl k))):=by
 refine PCall.ofCallsG (by kernel_rfl) (λ_ _ =>.p _ _ (.v _ rfl)) λw us _ hs h=>?_
 obtain⟨x,rfl⟩:=us1 hs;obtain⟨_,h0⟩:=h 0 _ x rfl rfl;rw[Q6v h0];exact Qahr k w
end Go.Proofs.YtfgegilhjlnohaaGreat
end
noncomputable section
set_option linter.unusedVariables false
set_option linter.unusedSimpArgs false
set_option maxRecDepth 100000
set_option maxHeartbeats 4000000
namespace Go.Proofs.YtfgegilhjlnohaaGreat
open Go.RowKit
structure Qal where
 name_:(List UInt8)
 it_:Int
def Qay (x:Qal):List V:=[sV x.name_,iV x.it_]
structure Qa3 where
 of_:Int
 name_:(List UInt8)
 is_:Int
def Qj4 (x:Qa3):List V:=[iV x.of_,sV x.name_,iV x.is_]
structure Qbp where
 Name:(List UInt8)
 In:(List Int)
 Gives:Int
def Qck (y:(List UInt8)×Int):D :=.tup [.p (sV y.1),.p (iV y.2)]
def Q0y:List (Nat×List Nat):=[(0,[0,1,2,6,7]),(1,[0,1,2,6,7,8,9]),(2,[0,1,2,6,7,8,9,19]),(3,[6,7]),(4,[0,1,2,6,7,10,11]),(5,[0,1,2,6,7,10,29]),(6,[6,7]),(7,[0,1,2,6,7,10]),(8,[1,6,7,10,12]),(9,[6,7]),(10,[6,7]),(9000008,[2,1,0,0]),(9600009,[5]),(9700009,[6,7])]
def Qbo (y:Int×Bool):D :=.tup [.p (iV y.1),.p (bV y.2)]
def Qot:List (Nat×List Nat):=[(0,[1,2,3]),(1,[1,2,3,16]),(2,[1,2,3,16,17]),(3,[6,7]),(4,[1,2,3,16,19]),(5,[6,7]),(6,[1,2,3,16,21]),(7,[6,7]),(8,[1,2,3,16,23]),(9,[1,3,8]),(10,[1,3,8,29]),(11,[1,3,8]),(12,[1,3,8,9]),(13,[1,3,8,9,40]),(14,[6,7]),(15,[1,2,3,16,47]),(16,[52]),(17,[6,7]),(18,[1,2,3,16,53]),(19,[1,2,3,53]),(20,[1,2,3,10]),(21,[1,2,3,10,57,58,59]),(22,[1,2,3,10,57,58,59,60]),(23,[1,2,3,10,12,57,58,59]),(24,[1,2,3,10,13,14,57,58,59]),(25,[1,2,3,10,13,57,58,59,71]),(26,[6,7]),(27,[1,2,3,10,57,58,59]),(28,[1,2,3,10,57,58,59]),(29,[3,10,79]),(30,[6,7]),(31,[3,10,88]),(32,[6,7]),(33,[6,7]),(1000010,[1,3,8]),(1000022,[1,2,3,10,57,58,59]),(2018005,[])]
def Qkq (p0:Qaa) (p1:(List Qak)) (v8:Int):St:=⟨[(1,.p (.sl false (p1.map Qbc))),(3,.ptr 0 0),(8,.p (iV v8))],⟨[[.p (iV p0.Kind),.p (sV p0.Name),.p (sV p0.Text),.p (iV p0.N),.p (.sl false (p0.L.map Qab)),.p (.sl false (p0.Then.map Qab)),.p (.sl false (p0.Else.map Qab))]],[]⟩⟩
def Qpg (p0:Qaa) (p1:(List Qak)) (y2:Unit):St:=⟨[],⟨[[.p (iV p0.Kind),.p (sV p0.Name),.p (sV p0.Text),.p (iV p0.N),.p (.sl false (p0.L.map Qab)),.p (.sl false (p0.Then.map Qab)),.p (.sl false (p0.Else.map Qab))]],[]⟩⟩
def Qph (p0:Qaa) (p1:(List Qak)) (y3:Int×Bool):St:=⟨[(6,.p (iV y3.1)),(7,.p (bV y3.2))],⟨[[.p (iV p0.Kind),.p (sV p0.Name),.p (sV p0.Text),.p (iV p0.N),.p (.sl false (p0.L.map Qab)),.p (.sl false (p0.Then.map Qab)),.p (.sl false (p0.Else.map Qab))]],[]⟩⟩
def Qzk:Code:=((Qa2 (Tryz.f87.body.getD .skip)).getD 0 .skip)
def Qzl (p0:Qaa) (p1:(List Qak)) (p2:(List (List UInt8))) (o7:Bool):St:=⟨[(1,.p (.sl false (p1.map Qbc))),(2,.p (.sl false (p2.map cStr))),(3,.ptr 0 0),(53,.p (bV o7))],⟨[[.p (iV p0.Kind),.p (sV p0.Name),.p (sV p0.Text),.p (iV p0.N),.p (.sl false (p0.L.map Qab)),.p (.sl false (p0.Then.map Qab)),.p (.sl false (p0.Else.map Qab))]],[]⟩⟩
def Qkr (p0:Qaa) (p1:(List Qak)) (p2:(List (List UInt8))) (v10:(List Int)) (v59:Int):St:=⟨[(1,.p (.sl false (p1.map Qbc))),(2,.p (.sl false (p2.map cStr))),(3,.ptr 0 0),(10,.own 0 44 1 (v10.map cInt)),(57,.p (.sl false (p0.L.map Qab))),(58,.p (iV (p0.L.length:Int))),(59,.p (iV v59))],⟨[[.p (iV p0.Kind),.p (sV p0.Name),.p (sV p0.Text),.p (iV p0.N),.p (.sl false (p0.L.map Qab)),.p (.sl false (p0.Then.map Qab)),.p (.sl false (p0.Else.map Qab))]],[(v10.map cInt).length]⟩⟩
def Qpi (p0:Qaa) (p1:(List Qak)) (p2:(List (List UInt8))) (y9:(List Int)):St:=⟨[(3,.ptr 0 0),(10,.own 0 44 1 (y9.map cInt))],⟨[[.p (iV p0.Kind),.p (sV p0.Name),.p (sV p0.Text),.p (iV p0.N),.p (.sl false (p0.L.map Qab)),.p (.sl false (p0.Then.map Qab)),.p (.sl false (p0.Else.map Qab))]],[(y9.map cInt).length]⟩⟩
def Qpj (p0:Qaa) (p1:(List Qak)) (p2:(List (List UInt8))) (y10:Unit):St:=⟨[(6,.p (iV 0)),(7,.p (bV false))],⟨[[.p (iV p0.Kind),.p (sV p0.Name),.p (sV p0.Text),.p (iV p0.N),.p (.sl false (p0.L.map Qab)),.p (.sl false (p0.Then.map Qab)),.p (.sl false (p0.Else.map Qab))]],[]⟩⟩
def Qzm:Code:=((Qa2 (Tryz.f87.body.getD .skip)).getD 1 .skip)
def Qfy (_:(List (Qal×Int))):D :=.tup []
def Qik:List (Nat×List Nat):=[(0,[0,1,3,15,16,17]),(1,[0,1,3,15,16,17,18]),(2,[0,1,3,9,15,16,17]),(3,[0,1,3,9,15,16,17,23]),(4,[0,1,3,9,10,11,15,16,17]),(5,[0,1,3,9,10,11,12,15,16,17]),(6,[0,1,3,9,10,11,12,15,16,17,40]),(7,[0,1,3,9,10,11,12,15,16,17,40,41]),(8,[0,1,3,9,10,11,12,15,16,17]),(9,[0,1,3,9,10,11,12,15,16,17,40,48]),(10,[0,1,3,9,10,11,12,15,16,17]),(11,[0,1,3,9,10,11,12,15,16,17,40,55]),(12,[0,1,3,9,10,11,12,13,14,15,16,17]),(13,[0,1,3,9,10,11,12,13,15,16,17]),(14,[0,1,3,9,10,11,12,15,16,17]),(15,[0,1,3,9,10,11,12,15,16,17,73]),(16,[0,1,3,9,10,11,12,15,16,17]),(17,[0,1,3,9,10,12,15,16,17,83]),(18,[0,1,3,9,10,12,15,16,17]),(19,[0,1,3,9,10,12,15,16,17,89]),(20,[0,1,3,15,16,17]),(21,[0,1,3,9,15,16,17]),(22,[0,1,3,15,16,17]),(23,[0,1,3,15,16,17]),(1000001,[0,1,3,15,16,17]),(2006024,[]),(3000013,[]),(9000014,[6,0,0,0]),(9000016,[6,0,0,0]),(9500021,[]),(9600018,[2]),(9600020,[5]),(9600021,[5]),(9600022,[5])]
def Qnw (p1:(List UInt8)) (p2:(List Qaa)) (p3:(List Qak)) (h0_0:(List Qad)) (h0_1:(List (List UInt8))) (v17:Int) (h1_0_:(List (Qal×Int))) (x4:Qaa) (x6:Int×Bool) (o8:Bool×(List Qak)):St:=⟨[(0,.ptr 0 0),(1,.p (sV p1)),(3,.p (.sl false (p3.map Qbc))),(9,.ptr 2 0),(10,.p (iV x6.1)),(11,.p (bV o8.1)),(12,.x 0 1 (.sl 46 3 (o8.2.map Qbc))),(15,.p (.sl false (p2.map Qab))),(16,.p (iV (p2.length:Int))),(17,.p (iV v17))],⟨[[.p (.sl false (h0_0.map Qai)),.p (.sl false (h0_1.map cStr)),.mh 1],[mpD (λx =>.agg (Qay x)) iV h1_0_],[.p (iV x4.Kind),.p (sV x4.Name),.p (sV x4.Text),.p (iV x4.N),.p (.sl false (x4.L.map Qab)),.p (.sl false (x4.Then.map Qab)),.p (.sl false (x4.Else.map Qab))]],[1]⟩⟩
def Qnx (p1:(List UInt8)) (p2:(List Qaa)) (p3:(List Qak)) (h0_0:(List Qad)) (h0_1:(List (List UInt8))) (v17:Int) (h1_0_:(List (Qal×Int))) (x4:Qaa) (x6:Int×Bool) (x7:(List Qak)) (x10:Int×Bool) (o11:Bool):St:=⟨[(0,.ptr 0 0),(1,.p (sV p1)),(3,.p (.sl false (p3.map Qbc))),(9,.ptr 2 0),(10,.p (iV x6.1)),(11,.p (bV o11)),(12,.x 0 1 (.sl 46 3 (x7.map Qbc))),(13,.p (iV x10.1)),(15,.p (.sl false (p2.map Qab))),(16,.p (iV (p2.length:Int))),(17,.p (iV v17))],⟨[[.p (.sl false (h0_0.map Qai)),.p (.sl false (h0_1.map cStr)),.mh 1],[mpD (λx =>.agg (Qay x)) iV h1_0_],[.p (iV x4.Kind),.p (sV x4.Name),.p (sV x4.Text),.p (iV x4.N),.p (.sl false (x4.L.map Qab)),.p (.sl false (x4.Then.map Qab)),.p (.sl false (x4.Else.map Qab))]],[1]⟩⟩
def Qca (p1:(List UInt8)) (p2:(List Qaa)) (p3:(List Qak)) (h0_0:(List Qad)) (h0_1:(List (List UInt8))) (v17:Int) (h1_0_:(List (Qal×Int))):St:=⟨[(0,.ptr 0 0),(1,.p (sV p1)),(3,.p (.sl false (p3.map Qbc))),(15,.p (.sl false (p2.map Qab))),(16,.p (iV (p2.length:Int))),(17,.p (iV v17))],⟨[[.p (.sl false (h0_0.map Qai)),.p (.sl false (h0_1.map cStr)),.mh 1],[mpD (λx =>.agg (Qay x)) iV h1_0_]],[]⟩⟩
def Qgn (p1:(List UInt8)) (p2:(List Qaa)) (p3:(List Qak)) (h0_0:(List Qad)) (h0_1:(List (List UInt8))) (y2:(List (Qal×Int))):St:=⟨[],⟨[[.p (.sl false (h0_0.map Qai)),.p (.sl false (h0_1.map cStr)),.mh 1],[mpD (λx =>.agg (Qay x)) iV y2]],[]⟩⟩
def Qgo (p1:(List UInt8)) (p2:(List Qaa)) (p3:(List Qak)) (h0_0:(List Qad)) (h0_1:(List (List UInt8))) (y3:(List UInt8)×(List (Qal×Int))):St:=⟨[],⟨[[.p (.sl false (h0_0.map Qai)),.p (.sl false (h0_1.map cStr)),.mh 1],[mpD (λx =>.agg (Qay x)) iV y3.2]],[]⟩⟩
def Qny:Code:=((Qa2 (Tryz.f67.body.getD .skip)).getD 0 .skip)
def Qg5 (_:(List (Qal×Int))):D :=.tup []
def Qrw:List (Nat×List Nat):=[(0,[0,3]),(1,[0,3,12]),(2,[0,3,4]),(3,[0,3]),(4,[]),(5000001,[2005]),(9000004,[5,0,0,0]),(9600003,[9]),(9800004,[5]),(7000004,[36,37])]
def Qa6 (y:Int×Bool):D :=.tup [.p (iV y.1),.p (bV y.2)]
def Q71:List (Nat×List Nat):=[(0,[0,3]),(1,[0,3,6]),(2,[3,6,10]),(3,[3,6,10,11]),(4,[3,6,10,11]),(5,[3,6,10,11]),(6,[3,6,10,15]),(7,[3,6,10,17]),(8,[3,6,10,17]),(9,[3,6,10,20]),(10,[3,6,10,20]),(11,[3,6,10,23]),(12,[3,6,10,25]),(13,[3,6,10,27]),(14,[3,6,10,29]),(15,[3,6,10,31]),(16,[3,6,10,33]),(17,[3,6,10,35]),(18,[3,6,10,37]),(19,[6,10,39]),(20,[6,10,41]),(21,[6,10,43]),(22,[6,10,45]),(23,[6,10,45]),(24,[6,48]),(25,[4,5]),(26,[4,5]),(27,[4,5]),(28,[4,5]),(29,[4,5]),(30,[4,5]),(31,[4,5]),(32,[4,5]),(33,[4,5]),(34,[3,97]),(35,[8]),(36,[105]),(37,[4,5]),(38,[6,114]),(39,[4,5]),(40,[4,5]),(41,[137]),(42,[4,5]),(43,[4,5]),(44,[4,5]),(45,[4,5]),(46,[4,5]),(47,[4,5]),(2003009,[]),(2007005,[]),(2009005,[]),(2022005,[]),(3000038,[]),(3000041,[])]
def Q0z (p0:(List UInt8)) (p1:(List Int)) (o1:Bool):St:=⟨[(3,.ptr 0 0),(6,.fn (.func 147) [] [.ptr 0 0]),(10,.p (sV p0)),(11,.p (bV o1))],⟨[[.p (.sl false (p1.map cInt))]],[]⟩⟩
def Q00 (p0:(List UInt8)) (p1:(List Int)) (o4:Bool):St:=⟨[(3,.ptr 0 0),(6,.fn (.func 147) [] [.ptr 0 0]),(10,.p (sV p0)),(17,.p (bV o4))],⟨[[.p (.sl false (p1.map cInt))]],[]⟩⟩
def Q01 (p0:(List UInt8)) (p1:(List Int)) (o6:Bool):St:=⟨[(3,.ptr 0 0),(6,.fn (.func 147) [] [.ptr 0 0]),(10,.p (sV p0)),(20,.p (bV o6))],⟨[[.p (.sl false (p1.map cInt))]],[]⟩⟩
def Q02 (p1:(List Int)) (o15:Bool):St:=⟨[(6,.fn (.func 147) [] [.ptr 0 0]),(114,.p (bV o15))],⟨[[.p (.sl false (p1.map cInt))]],[]⟩⟩
def Q03 (p1:(List Int)) (o18:Bool):St:=⟨[(137,.p (bV o18))],⟨[[.p (.sl false (p1.map cInt))]],[]⟩⟩
def Q04 (p0:(List UInt8)) (p1:(List Int)) (o26:Bool):St:=⟨[(6,.fn (.func 147) [] [.ptr 0 0]),(10,.p (sV p0)),(45,.p (bV o26))],⟨[[.p (.sl false (p1.map cInt))]],[]⟩⟩
def Qou (y:Int×Bool):D :=.tup [.p (iV y.1),.p (bV y.2)]
def Q05:List (Nat×List Nat):=[(0,[0,1,2]),(1,[0,10]),(2,[5,6]),(3,[5,6])]
def Qg6 (y:Int×Bool):D :=.tup [.p (iV y.1),.p (bV y.2)]
def Q72:List (Nat×List Nat):=[(0,[0]),(1,[4]),(2,[4,5]),(3,[2,3]),(4,[4,7]),(5,[2,3]),(6,[9]),(7,[2,3]),(8,[2,3])]
def Qmm (y:Int×Bool):D :=.tup [.p (iV y.1),.p (bV y.2)]
def Quf:List (Nat×List Nat):=[(0,[0,1]),(1,[0,1,8,9,10]),(2,[0,1,8,9,10,11]),(3,[0,1,7,8,9,10]),(4,[0,1,7,8,9,10,23]),(5,[4,5]),(6,[0,1,8,9,10]),(7,[4,5]),(1000002,[0,1,8,9,10]),(3000004,[])]
def Qzn (p0:Int) (p1:(List UInt8)) (x1:(List Qa3)) (v10:Int) (x5:Qa3) (o6:Bool):St:=⟨[(0,.p (iV p0)),(1,.p (sV p1)),(7,.ptr 0 0),(8,.p (.sl false (x1.map Qj4))),(9,.p (iV (x1.length:Int))),(10,.p (iV v10)),(23,.p (bV o6))],⟨[[.p (iV x5.of_),.p (sV x5.name_),.p (iV x5.is_)]],[]⟩⟩
def Qks (p0:Int) (p1:(List UInt8)) (x1:(List Qa3)) (v10:Int):St:=⟨[(0,.p (iV p0)),(1,.p (sV p1)),(8,.p (.sl false (x1.map Qj4))),(9,.p (iV (x1.length:Int))),(10,.p (iV v10))],⟨[],[]⟩⟩
def Qpk (p0:Int) (p1:(List UInt8)) (x1:(List Qa3)) (y3:Unit):St:=⟨[],⟨[],[]⟩⟩
def Qpl (p0:Int) (p1:(List UInt8)) (x1:(List Qa3)) (y4:Int):St:=⟨[(4,.p (iV y4)),(5,.p (bV true))],⟨[],[]⟩⟩
def Qzo:Code:=((Qa2 (Tryz.f120.body.getD .skip)).getD 0 .skip)
def Qzp (y:(List UInt8)):D :=.p (sV y)
def Qmn (y:Bool):D :=.p (bV y)
def Q4q:List (Nat×List Nat):=[(0,[0]),(1,[2]),(3000001,[])]
def Qzq  (o1:Bool):St:=⟨[(2,.p (bV o1))],⟨[],[]⟩⟩
def Qqv (y:(List Qa3)):D :=.p (.sl false (y.map Qj4))
def Q4r:List (Nat×List Nat):=[(0,[]),(1,[0])]
def Qe3 (y:Bool):D :=.p (bV y)
def Qhi:List (Nat×List Nat):=[(0,[0,1]),(1,[0,1,5]),(2,[0,1,5,6]),(3,[0,1,5,6,22]),(4,[0,1,5,6]),(5,[0,1,5,6,7]),(6,[0,1,5,6]),(7,[1,5,8]),(8,[1,5,8,47]),(9,[1,5,8]),(10,[1,5]),(11,[1,9,10]),(12,[9,10,69]),(13,[4]),(14,[4]),(1000003,[0,1,5,6]),(2008005,[]),(3000013,[]),(3000014,[])]
def Qds (p0:Int) (p1:Bool) (v5:(List Qad)) (v6:Int):St:=⟨[(0,.p (nV .u8 p0)),(1,.p (bV p1)),(5,.own 0 1000056 2 (v5.map Qai)),(6,.p (iV v6))],⟨[],[(v5.map Qai).length]⟩⟩
def Qfz (p0:Int) (p1:Bool) (o1:(List Qad)):St:=⟨[(1,.p (bV p1)),(5,.own 0 1000056 2 (o1.map Qai))],⟨[],[(o1.map Qai).length]⟩⟩
def Qly:Code:=((Qa2 (Tryz.f11.body.getD .skip)).getD 0 .skip)
def Qlz (p1:Bool) (o1:(List Qad)) (o5:Int×(List UInt8)×Int):St:=⟨[(1,.p (bV p1)),(5,.own 0 1000056 2 (o1.map Qai)),(8,.ptr 0 0)],⟨[[.p (iV o5.1),.p (sV o5.2.1),.p (sV []),.p (iV o5.2.2),.p (.sl true []),.p (.sl true []),.p (.sl true [])]],[(o1.map Qai).length]⟩⟩
def Ql0 (o5:Int×(List UInt8)×Int) (x7:(List Qad)) (o9:Bool):St:=⟨[(4,.p (bV o9))],⟨[[.p (iV o5.1),.p (sV o5.2.1),.p (sV []),.p (iV o5.2.2),.p (.sl true []),.p (.sl true []),.p (.sl true [])]],[(x7.map Qai).length]⟩⟩
def Ql1 (o5:Int×(List UInt8)×Int) (x7:(List Qad)) (o11:Bool):St:=⟨[(4,.p (bV o11))],⟨[[.p (iV o5.1),.p (sV o5.2.1),.p (sV []),.p (iV o5.2.2),.p (.sl true []),.p (.sl true []),.p (.sl true [])]],[(x7.map Qai).length]⟩⟩
def Qe4 (y:Bool):D :=.p (bV y)
def Qrx:List (Nat×List Nat):=[(0,[]),(1,[2]),(2,[2,3,4]),(3,[2,3,4,6]),(4,[0]),(3000004,[])]
def Qpr  (o7:Bool):St:=⟨[(0,.p (bV o7))],⟨[],[]⟩⟩
def Qej (y:(List Qad)):D :=.p (.sl false (y.map Qai))
def Qug:List (Nat×List Nat):=[(0,[0]),(1,[3]),(2,[2])]
def Qbg (y:Bool):D :=.p (bV y)
def Qd3:List (Nat×List Nat):=[(0,[0,1]),(1,[0,1,10]),(2,[4]),(3,[0,1,12,13]),(4,[0,1,12,13,14]),(5,[0,1,5,12,13]),(6,[0,1,12,13,24]),(7,[4]),(8,[0,1,12,13]),(9,[4]),(1000004,[0,1,12,13])]
def Qcb (p0:(List Int)) (p1:(List Int)) (v13:Int):St:=⟨[(0,.p (.sl false (p0.map cInt))),(1,.p (.sl false (p1.map cInt))),(12,.p (iV (p0.length:Int))),(13,.p (iV v13))],⟨[],[]⟩⟩
def Qdg (p0:(List Int)) (p1:(List Int)) (y2:Unit):St:=⟨[],⟨[],[]⟩⟩
def Qdh (p0:(List Int)) (p1:(List Int)) (y3:Unit):St:=⟨[(4,.p (bV false))],⟨[],[]⟩⟩
def Qg7:Code:=((Qa2 (Tryz.f148.body.getD .skip)).getD 0 .skip)
def Qg8 (p0:(List UInt8)) (p1:(List Int)) (x1:(List Qbp)) (v7:Int) (v8:Bool) (v9:Int):Option (Bool) :=
 ( if v8 then
   some (decide (v9<(p1.length:Int)))
  else
   some false:Option (Bool))>>=λo9 =>
 if o9 then
  idx x1 v7>>=λx10 =>
  idx x10.In v9>>=λx11 =>
  idx p1 v9>>=λx12 =>
  Qg8 p0 p1 x1 v7 (x11==x12) (wr (v9+1))
 else
  some v8
 partial_fixpoint
def Qlv (p0:(List UInt8)) (p1:(List Int)) (x1:(List Qbp)) (v7:Int):Option (Unit⊕Int) :=
 if(decide (v7<(x1.length:Int))) then
  ( idx x1 v7>>=λx6 =>
   if(x6.Name==p0) then
    idx x1 v7>>=λx7 =>
    some ((x7.In.length:Int)==(p1.length:Int))
   else
    some false:Option (Bool))>>=λo5 =>
  (Qg8 p0 p1 x1 v7 o5 0)>>=λo8 =>
  if o8 then
   idx x1 v7>>=λx13 =>
   some (.inr x13.Gives)
  else
   Qlv p0 p1 x1 (wr (v7+1))
 else
  some (.inl ())
 partial_fixpoint
def Qabt:Option ((List Qbp)) :=
 some ([(Qbp.mk [117,112,112,101,114] [1] 1),(Qbp.mk [108,111,119,101,114] [1] 1),(Qbp.mk [116,114,105,109] [1] 1),(Qbp.mk [115,105,122,101] [1] 2),(Qbp.mk [102,105,114,115,116] [1,2] 1),(Qbp.mk [108,97,115,116] [1,2] 1),(Qbp.mk [100,101,102,97,117,108,116] [1,1] 1),(Qbp.mk [99,97,116] [1,1] 1),(Qbp.mk [114,101,112,108,97,99,101] [1,1,1] 1),(Qbp.mk [106,111,105,110] [7,1] 1),(Qbp.mk [107,101,121,115] [8] 7),(Qbp.mk [103,101,116] [8,1] 1),(Qbp.mk [104,97,115] [8,1] 3),(Qbp.mk [99,111,117,110,116] [7] 2),(Qbp.mk [99,111,117,110,116] [8] 2),(Qbp.mk [99,111,117,110,116] [9] 2),(Qbp.mk [119,114,105,116,101] [2] 1),(Qbp.mk [119,114,105,116,101] [3] 1),(Qbp.mk [97,100,100] [2,2] 2),(Qbp.mk [115,117,98] [2,2] 2),(Qbp.mk [108,101,115,115] [2,2] 3),(Qbp.mk [115,97,109,101] [1,1] 3),(Qbp.mk [115,97,109,101] [2,2] 3),(Qbp.mk [115,97,109,101] [3,3] 3),(Qbp.mk [98,111,116,104] [3,3] 3),(Qbp.mk [101,105,116,104,101,114] [3,3] 3),(Qbp.mk [110,111,116] [3] 3)])
def Qxb (p0:(List UInt8)) (p1:(List Int)):Option (Int×Bool) :=
 Qabt>>=λx1 =>
 (Qlv p0 p1 x1 0)>>=λo2 =>
 match o2 with
 | .inl y3 =>
  some (0,false)
 | .inr y4 =>
  some (y4,true)
def Qxc (p0:Int):Option (Int×Bool) :=
 if(p0==7) then
  some (1,true)
 else
  if(p0==8) then
   some (4,true)
  else
   if(p0==9) then
    some (5,true)
   else
    some (0,false)
def Qj5 (p1:(List UInt8)) (x1:(List (List UInt8))×(List Int)) (v8:Int):Option (Unit⊕Int) :=
 if(decide (v8<(x1.1.length:Int))) then
  idx x1.1 v8>>=λx5 =>
  if(x5==p1) then
   idx x1.2 v8>>=λx6 =>
   some (.inr x6)
  else
   Qj5 p1 x1 (wr (v8+1))
 else
  some (.inl ())
 partial_fixpoint
def Qvf (p0:Int):Option ((List (List UInt8))×(List Int)) :=
 if(p0==4) then
  some ([[107,101,121],[118,97,108]],[1,1])
 else
  if(p0==5) then
   some ([[102,105,114,105,110,103],[115,116,97,114,116,115],[118,97,108,117,101],[108,97,98,101,108,115],[110,111,116,101,115],[108,105,110,107]],[3,2,2,8,8,1])
  else
   if(p0==6) then
    some ([[114,101,99,101,105,118,101,114],[102,105,114,105,110,103],[99,111,109,109,111,110],[108,105,110,107],[97,108,101,114,116,115]],[1,3,8,1,9])
   else
    some ([],[])
def Qqw (p0:Int) (p1:(List UInt8)):Option (Int×Bool) :=
 Qvf p0>>=λx1 =>
 (Qj5 p1 x1 0)>>=λo2 =>
 match o2 with
 | .inl y3 =>
  some (0,false)
 | .inr y4 =>
  some (y4,true)
def Qaf0:Option ((List (List UInt8))) :=
 some ([[116,101,120,116],[110,117,109,98,101,114],[116,114,117,116,104],[112,97,105,114],[97,108,101,114,116],[103,114,111,117,112],[116,101,120,116,115],[112,97,105,114,115],[97,108,101,114,116,115]])
def Q4s (p0:Int):Option ((List UInt8)) :=
 ( if(decide (p0<1)) then
   some true
  else
   some (decide (p0>9)):Option (Bool))>>=λo1 =>
 if o1 then
  some []
 else
  Qaf0>>=λx2 =>
  idx x2 (wr (p0-1))>>=λx3 =>
  some x3
def Quh (p0:Int):Option (Bool) :=
 ( if(p0==1) then
   some true
  else
   if(p0==2) then
    some true
   else
    some (p0==3):Option (Bool))>>=λo1 =>
 some o1
def Qj6 (p0:(List Qak)) (p1:(List UInt8)) (v6:Int):Option (Unit⊕(Int×Bool)) :=
 if(decide (v6 >= 0)) then
  idx p0 v6>>=λx4 =>
  if(x4.Name==p1) then
   idx p0 v6>>=λx5 =>
   idx p0 v6>>=λx6 =>
   Q4s x6.K>>=λx7 =>
   some (.inr (x5.K,(!(x7==[]))))
  else
   Qj6 p0 p1 (wr (v6-1))
 else
  some (.inl ())
 partial_fixpoint
def Qzr (p0:(List Qak)) (p1:(List UInt8)):Option (Int×Bool) :=
 (Qj6 p0 p1 (wr ((p0.length:Int)-1)))>>=λo1 =>
 match o1 with
 | .inl y2 =>
  some (0,false)
 | .inr y3 =>
  some (y3.1,y3.2)
mutual
def Qui (p0:Qaa) (p1:(List Qak)) (p2:(List (List UInt8))):Option (Int×Bool) :=
 if(p0.Kind==1) then
  some (1,true)
 else
  if(p0.Kind==2) then
   some (2,true)
  else
   if(p0.Kind==3) then
    some (3,true)
   else
    if(p0.Kind==4) then
     Qzr p1 p0.Name>>=λx1 =>
     some (x1.1,x1.2)
    else
     if(p0.Kind==7) then
      Q7d p2 p0.Name>>=λx2 =>
      if x2 then
       some (1,true)
      else
       some (0,false)
     else
      ( if(p0.Kind==5) then
        some (p0.Kind==5)
       else
        some (p0.Kind==6):Option (Bool))>>=λo3 =>
      if o3 then
       (Qlw p0 p1 p2 [] 0)>>=λo4 =>
       match o4 with
       | .inl y5 =>
        if(p0.Kind==6) then
         Qxb p0.Name y5>>=λx10 =>
         some (x10.1,x10.2)
        else
         if((y5.length:Int)==1) then
          idx y5 0>>=λx11 =>
          Qqw x11 p0.Name>>=λx12 =>
          some (x12.1,x12.2)
         else
          some (0,false)
       | .inr y6 =>
        some (0,false)
      else
       some (0,false)
 partial_fixpoint
def Qlw (p0:Qaa) (p1:(List Qak)) (p2:(List (List UInt8))) (v8:(List Int)) (v9:Int):Option ((List Int)⊕Unit) :=
 if(decide (v9<(p0.L.length:Int))) then
  idx p0.L v9>>=λx7 =>
  Qui x7 p1 p2>>=λx8 =>
  if(!x8.2) then
   some (.inr ())
  else
   appL 8 v8 [x8.1]>>=λx9 =>
   Qlw p0 p1 p2 x9 (wr (v9+1))
 else
  some (.inl v8)
 partial_fixpoint
end
mutual
def Qj7 (p0:(List Qad)) (p1:(List UInt8)) (p2:(List Qaa)) (p3:(List Qak)) (p4:(List (List UInt8))):Option ((List UInt8)×Bool) :=
 (Qem p0 p1 p2 p3 p4 0)>>=λo1 =>
 match o1 with
 | .inl y2 =>
  some ([],true)
 | .inr y3 =>
  some (y3,false)
 partial_fixpoint
def Qem (p0:(List Qad)) (p1:(List UInt8)) (p2:(List Qaa)) (p3:(List Qak)) (p4:(List (List UInt8))) (v12:Int):Option (Unit⊕(List UInt8)) :=
 if(decide (v12<(p2.length:Int))) then
  idx p2 v12>>=λx4 =>
  if(x4.Kind==8) then
   Qem p0 p1 p2 p3 p4 (wr (v12+1))
  else
   idx x4.L 0>>=λx5 =>
   Qui x5 p3 p4>>=λx6 =>
   Qxc x6.1>>=λx7 =>
   ( if(!x6.2) then
     some true
    else
     if(x4.Kind==9) then
      Quh x6.1>>=λx9 =>
      if(!x9) then
       some true
      else
       if(x4.Kind==10) then
        if(x6.1 != 3) then
         some true
        else
         if(x4.Kind==11) then
          some (!x7.2)
         else
          some false
       else
        if(x4.Kind==11) then
         some (!x7.2)
        else
         some false
     else
      if(x4.Kind==10) then
       if(x6.1 != 3) then
        some true
       else
        if(x4.Kind==11) then
         some (!x7.2)
        else
         some false
      else
       if(x4.Kind==11) then
        some (!x7.2)
       else
        some false:Option (Bool))>>=λo8 =>
   if o8 then
    some (.inr p1)
   else
    appL 32 [] p3>>=λx10 =>
    ( if(x4.Kind==11) then
      appL 32 x10 [(Qak.mk x4.Name x7.1 false)]>>=λx12 =>
      some x12
     else
      some x10:Option ((List Qak)))>>=λo11 =>
    ( if(x4.Kind==12) then
      appL 32 o11 [(Qak.mk x4.Name x6.1 false)]>>=λx14 =>
      some x14
     else
      some o11:Option ((List Qak)))>>=λo13 =>
    Qj7 p0 p1 x4.Then o13 p4>>=λx15 =>
    if(!x15.2) then
     some (.inr x15.1)
    else
     Qj7 p0 p1 x4.Else p3 p4>>=λx16 =>
     if(!x16.2) then
      some (.inr x16.1)
     else
      if(x4.Kind==13) then
       Qme p0 x4.Name>>=λx17 =>
       Qj7 p0 x4.Name x17.1 ([(Qak.mk [103,114,111,117,112] 6 false),(Qak.mk [105,116] x6.1 false)]) p4>>=λx18 =>
       if(!x18.2) then
        some (.inr x18.1)
       else
        Qem p0 p1 p2 p3 p4 (wr (v12+1))
      else
       Qem p0 p1 p2 p3 p4 (wr (v12+1))
 else
  some (.inl ())
 partial_fixpoint
end
def Q73 (p0:(List Qad)) (p1:(List UInt8)) (p2:(List (List UInt8))):Option ((List UInt8)×Int) :=
 Qyv p0>>=λx1 =>
 if(x1.2 != 0) then
  some (x1.1,x1.2)
 else
  Qme p0 p1>>=λx2 =>
  if(!x2.2) then
   some ([],4)
  else
   Qj7 p0 p1 x2.1 ([(Qak.mk [103,114,111,117,112] 6 false)]) p2>>=λx3 =>
   if(!x3.2) then
    some (x3.1,201)
   else
    some ([],0)
def Quj (p0:Int):Option ((List UInt8)) :=
 some (Qwl p0)
theorem Q74:∀ (p0:Int) (o:(List UInt8)),Quj p0=some o->PCall Tryz.prog 118 [iV p0] (Qzp o):=by
 intro p0 o h;unfold Quj at h;cases h;exact Qahs _
def Qe5 (p0:Qaa) (p1:(List Qak)) (v8:Int):Option (Unit⊕(Int×Bool)) :=
 if(decide (v8 >= 0)) then
  idx p1 v8>>=λx4 =>
  if(x4.Name==p0.Name) then
   Quj x4.K>>=λx5 =>
   some (.inr (x4.K,(!(x5==[]))))
  else
   Qe5 p0 p1 (wr (v8-1))
 else
  some (.inl ())
 partial_fixpoint
theorem Qac9:∀ (p0:Qaa) (p1:(List Qak)),(∀ (v8:Int) (o1:Unit⊕(Int×Bool)),Qe5 p0 p1 v8=some o1->TL (0,0) Tryz.prog 97 Qzk (JP2 (0,0) 97 o1 (.exit 1) (Qpg p0 p1) .ret (Qph p0 p1)) (Qkq p0 p1 v8)):=by
 intro p0 p1;refine Qe5.partial_correctness p0 p1 _ ?_;intro Qe5' iQe5 v8 o1 h;refine TL.round (Qaq mixed tbOk (lv:=Qot) _ _ _ ?_);refine Qae h (λhb h=>?_) (λhb h=>?_)
 .refine Qbu (l:=p1) (c:=Qbc) (c' := Qbc) h (λ_=>rfl) (λ_=>rfl) (by decide) (λx4 hi h=>?_);refine Qae h (λhb h=>?_) (λhb h=>?_)
  .refine And.intro (by decide +kernel) (And.intro rfl ?_);refine Qda [iV x4.K] Qzp h (λx5 hy=>(Q74 x4.K x5 hy)) (λx5 hy h=>?_);exact JP2.b h (Le.ty 1 0)
  .refine TL.le (τ := Qkq p0 p1 (wr (v8-1))) ?_ ((iQe5 (wr (v8-1)) _ h));exact Le.ty 1 0
 .exact JP2.a h (Le.ty 1 0)
def Qaz (p0:(List Int)) (p1:(List Int)) (v13:Int):Option (Unit⊕Unit) :=
 if(decide (v13<(p0.length:Int))) then
  idx p0 v13>>=λx4 =>
  idx p1 v13>>=λx5 =>
  if(x4 != x5) then
   some (.inr ())
  else
   Qaz p0 p1 (wr (v13+1))
 else
  some (.inl ())
 partial_fixpoint
theorem Qry:∀ (p0:(List Int)) (p1:(List Int)),(∀ (v13:Int) (o1:Unit⊕Unit),Qaz p0 p1 v13=some o1->TL (0,0) Tryz.prog 26 Qg7 (JP2 (0,0) 26 o1 (.exit 0) (Qdg p0 p1) .ret (Qdh p0 p1)) (Qcb p0 p1 v13)):=by
 intro p0 p1;refine Qaz.partial_correctness p0 p1 _ ?_;intro Qaz' iQaz v13 o1 h;refine TL.round (Qaq mixed tbOk (lv:=Qd3) _ _ _ ?_);refine Qae h (λhb h=>?_) (λhb h=>?_)
 .refine And.intro (by decide +kernel) (And.intro rfl ?_);refine Qbu (l:=p0) (c:=cInt) (c' := cInt) h (λ_=>rfl) (λ_=>rfl) (by decide) (λx4 hi h=>?_);refine Qbu (l:=p1) (c:=cInt) (c' := cInt) h (λ_=>rfl) (λ_=>rfl) (by decide) (λx5 hi h=>?_);refine Qae h (λhb h=>?_) (λhb h=>?_)
  .exact JP2.b h (Le.ty 0 0)
  .refine TL.le (τ := Qcb p0 p1 (wr (v13+1))) ?_ ((iQaz (wr (v13+1)) _ h));exact Le.ty 0 0
 .exact JP2.a h (Le.ty 0 0)
def Qbm (p0:(List Int)) (p1:(List Int)):Option (Bool) :=
 if((p0.length:Int) != (p1.length:Int)) then
  some false
 else
  (Qaz p0 p1 0)>>=λo1 =>
  match o1 with
  | .inl y2 =>
   some true
  | .inr y3 =>
   some false
theorem Qh4:∀ (p0:(List Int)) (p1:(List Int)) (o:Bool),Qbm p0 p1=some o->PCall Tryz.prog 148 [.sl false (p0.map cInt),.sl false (p1.map cInt)] (Qbg o):=by
 intro p0 p1 o h;unfold Qbm at h;refine PCall.ofY Qd3 Tryz.func148 ?_;refine view (Qcz _ _) rfl ?_;refine view (Qcz _ _) rfl ?_;refine Qae h (λhb h=>?_) (λhb h=>?_)
 .refine Qan (t:=Qbg) h ?_;exact .refl _
 .refine view (Qcz _ _) rfl ?_;refine Qaj h (λo1 ho hk=>?_);refine Exists.intro (JP2 _ _ o1 (.exit 0) (Qdg p0 p1) .ret (Qdh p0 p1)) (And.intro (Qk4 (τ := Qcb p0 p1 0) ?_ (TL.loop (Qry p0 p1 0 o1 ho))) (Qke (λy2 hy=>?_) (λy3 hy=>?_)))
  .exact Le.ty 0 0
  .have h:=(by rw[hy] at hk; exact hk);refine Qan (t:=Qbg) h ?_;exact .refl _
  .have h:=(by rw[hy] at hk; exact hk);refine Qan (t:=Qbg) h ?_;exact .refl _
def Qbe (p0:Int) (p1:(List Int)) (h0_0:(List Int)):Option (Int×Bool) :=
 Qbm h0_0 p1>>=λx1 =>
 if(!x1) then
  some (0,false)
 else
  some (p0,true)
theorem Qbf:∀ (p0:Int) (p1:(List Int)) (h0_0:(List Int)) (o:Int×Bool),Qbe p0 p1 h0_0=some o->CallOK Tryz.prog 147 [.p (iV p0),.p (.sl false (p1.map cInt)),.ptr 0 0] ⟨[[.p (.sl false (h0_0.map cInt))]],[]⟩ (Qou o) ⟨[[.p (.sl false (h0_0.map cInt))]],[]⟩:=by
 intro p0 p1 h0_0 o h;unfold Qbe at h;refine CallOK.ofB mixed tbOk Q05 Tryz.func147 rfl (by kernel_rfl) (Nat.le_of_ble_eq_true rfl) rfl rfl rfl ?_;refine Qas [.sl false (h0_0.map cInt),.sl false (p1.map cInt)] Qbg h (λx1 hy=>(Qh4 h0_0 p1 x1 hy)) (λx1 hy h=>?_);refine Qae h (λhb h=>?_) (λhb h=>?_)
 .refine Exists.intro _ (And.intro (Le.refl _ _ _) ?_);exact Qb2 (t:=Qou) (ss:=λo=>⟨[[.p (.sl false (h0_0.map cInt))]],[]⟩) h ⟨[],rfl,.refl _,.refl _,rfl⟩
 .refine Exists.intro _ (And.intro (Le.refl _ _ _) ?_);exact Qb2 (t:=Qou) (ss:=λo=>⟨[[.p (.sl false (h0_0.map cInt))]],[]⟩) h ⟨[],rfl,.refl _,.refl _,rfl⟩
def Qj8 (p0:Int):Option (Int×Bool) :=
 if(p0==7) then
  some (1,true)
 else
  if(p0==8) then
   some (4,true)
  else
   if(p0==9) then
    some (5,true)
   else
    some (0,false)
theorem Qv0:∀ (p0:Int) (o:Int×Bool),Qj8 p0=some o->PCall Tryz.prog 90 [iV p0] (Qg6 o):=by
 intro p0 o h;unfold Qj8 at h;refine PCall.ofY Q72 Tryz.func90 ?_;refine Qae h (λhb h=>?_) (λhb h=>?_)
 .refine Qan (t:=Qg6) h ?_;exact .refl _
 .refine Qae h (λhb h=>?_) (λhb h=>?_)
  .refine Qan (t:=Qg6) h ?_;exact .refl _
  .refine Qae h (λhb h=>?_) (λhb h=>?_)
   .refine Qan (t:=Qg6) h ?_;exact .refl _
   .refine Qan (t:=Qg6) h ?_;exact .refl _
def Qhj (p0:Int):Option (Bool) :=
 ( if(decide (p0 >= 1)) then
   some (decide (p0<=3))
  else
   some false:Option (Bool))>>=λo1 =>
 some o1
theorem Quk:∀ (p0:Int) (o:Bool),Qhj p0=some o->PCall Tryz.prog 89 [iV p0] (Qmn o):=by
 intro p0 o h;unfold Qhj at h;refine PCall.ofY Q4q Tryz.func89 ?_;refine Qaj h (λo1 ho hk=>?_);refine Exists.intro (JP1 _ _ o1 .normal (Qzq )) (And.intro ?_ (Qa5 ?_))
 .have h:=ho;refine Qae h (λhb h=>?_) (λhb h=>?_)
  .exact JP1.a h (Le.ty 0 0)
  .exact JP1.a h (Le.ty 0 0)
 .have h:=hk;refine Qan (t:=Qmn) h ?_;exact .refl _
def Qd4 (p0:(List UInt8)) (p1:(List Int)):Option (Int×Bool) :=
 ( if(p0==[117,112,112,101,114]) then
   some (p0==[117,112,112,101,114])
  else
   if(p0==[108,111,119,101,114]) then
    some (p0==[108,111,119,101,114])
   else
    some (p0==[116,114,105,109]):Option (Bool))>>=λo1 =>
 if o1 then
  Qbe 1 [1] p1>>=λx2 =>
  some (x2.1,x2.2)
 else
  if(p0==[115,105,122,101]) then
   Qbe 2 [1] p1>>=λx3 =>
   some (x3.1,x3.2)
  else
   ( if(p0==[102,105,114,115,116]) then
     some (p0==[102,105,114,115,116])
    else
     some (p0==[108,97,115,116]):Option (Bool))>>=λo4 =>
   if o4 then
    Qbe 1 [1,2] p1>>=λx5 =>
    some (x5.1,x5.2)
   else
    ( if(p0==[100,101,102,97,117,108,116]) then
      some (p0==[100,101,102,97,117,108,116])
     else
      some (p0==[99,97,116]):Option (Bool))>>=λo6 =>
    if o6 then
     Qbe 1 [1,1] p1>>=λx7 =>
     some (x7.1,x7.2)
    else
     if(p0==[114,101,112,108,97,99,101]) then
      Qbe 1 [1,1,1] p1>>=λx8 =>
      some (x8.1,x8.2)
     else
      if(p0==[106,111,105,110]) then
       Qbe 1 [7,1] p1>>=λx9 =>
       some (x9.1,x9.2)
      else
       if(p0==[107,101,121,115]) then
        Qbe 7 [8] p1>>=λx10 =>
        some (x10.1,x10.2)
       else
        if(p0==[103,101,116]) then
         Qbe 1 [8,1] p1>>=λx11 =>
         some (x11.1,x11.2)
        else
         if(p0==[104,97,115]) then
          Qbe 3 [8,1] p1>>=λx12 =>
          some (x12.1,x12.2)
         else
          if(p0==[99,111,117,110,116]) then
           if((p1.length:Int)==1) then
            idx p1 0>>=λx13 =>
            Qj8 x13>>=λx14 =>
            if x14.2 then
             some (2,true)
            else
             some (0,false)
           else
            some (0,false)
          else
           if(p0==[119,114,105,116,101]) then
            ( if((p1.length:Int)==1) then
              idx p1 0>>=λx16 =>
              some (x16==3)
             else
              some false:Option (Bool))>>=λo15 =>
            if o15 then
             some (1,true)
            else
             Qbe 1 [2] p1>>=λx17 =>
             some (x17.1,x17.2)
           else
            if(p0==[115,97,109,101]) then
             ( if((p1.length:Int)==2) then
               idx p1 0>>=λx19 =>
               idx p1 1>>=λx20 =>
               if(x19==x20) then
                idx p1 0>>=λx21 =>
                Qhj x21>>=λx22 =>
                some x22
               else
                some false
              else
               some false:Option (Bool))>>=λo18 =>
             if o18 then
              some (3,true)
             else
              some (0,false)
            else
             if(p0==[108,101,115,115]) then
              Qbe 3 [2,2] p1>>=λx23 =>
              some (x23.1,x23.2)
             else
              if(p0==[97,100,100]) then
               Qbe 2 [2,2] p1>>=λx24 =>
               some (x24.1,x24.2)
              else
               if(p0==[115,117,98]) then
                Qbe 2 [2,2] p1>>=λx25 =>
                some (x25.1,x25.2)
               else
                ( if(p0==[98,111,116,104]) then
                  some (p0==[98,111,116,104])
                 else
                  some (p0==[101,105,116,104,101,114]):Option (Bool))>>=λo26 =>
                if o26 then
                 Qbe 3 [3,3] p1>>=λx27 =>
                 some (x27.1,x27.2)
                else
                 if(p0==[110,111,116]) then
                  Qbe 3 [3] p1>>=λx28 =>
                  some (x28.1,x28.2)
                 else
                  some (0,false)
theorem Q75:∀ (p0:(List UInt8)) (p1:(List Int)) (o:Int×Bool),Qd4 p0 p1=some o->PCall Tryz.prog 119 [sV p0,.sl false (p1.map cInt)] (Qa6 o):=by
 intro p0 p1 o h;unfold Qd4 at h;refine PCall.ofY Q71 Tryz.func119 ?_;refine Qaj h (λo1 ho hk=>?_);refine Exists.intro (JP1 _ _ o1 .normal (Q0z p0 p1)) (And.intro ?_ (Qa5 ?_))
 .have h:=ho;refine Qae h (λhb h=>?_) (λhb h=>?_)
  .exact JP1.a h (Le.ty 1 0)
  .refine Qae h (λhb h=>?_) (λhb h=>?_)
   .exact JP1.a h (Le.ty 1 0)
   .exact JP1.a h (Le.ty 1 0)
 .have h:=hk;refine Qae h (λhb h=>?_) (λhb h=>?_)
  .refine Qam _ _ h (λx2 hy=>((Qbf 1 [1] p1 x2 hy).fr [0] [] rfl rfl rfl).weakC (.cons (.refl _) (.cons (.p (.not)) (.cons (.refl _) (.nil))))) (λx2 hy h=>?_);refine Qan (t:=Qa6) h ?_;exact .refl _
  .refine Qae h (λhb h=>?_) (λhb h=>?_)
   .refine Qam _ _ h (λx3 hy=>((Qbf 2 [1] p1 x3 hy).fr [0] [] rfl rfl rfl).weakC (.cons (.refl _) (.cons (.p (.not)) (.cons (.refl _) (.nil))))) (λx3 hy h=>?_);refine Qan (t:=Qa6) h ?_;exact .refl _
   .refine Qaj h (λo4 ho hk=>?_);refine Exists.intro (JP1 _ _ o4 .normal (Q00 p0 p1)) (And.intro ?_ (Qa5 ?_))
    .have h:=ho;refine Qae h (λhb h=>?_) (λhb h=>?_)
     .exact JP1.a h (Le.ty 1 0)
     .exact JP1.a h (Le.ty 1 0)
    .have h:=hk;refine Qae h (λhb h=>?_) (λhb h=>?_)
     .refine Qam _ _ h (λx5 hy=>((Qbf 1 [1,2] p1 x5 hy).fr [0] [] rfl rfl rfl).weakC (.cons (.refl _) (.cons (.p (.not)) (.cons (.refl _) (.nil))))) (λx5 hy h=>?_);refine Qan (t:=Qa6) h ?_;exact .refl _
     .refine Qaj h (λo6 ho hk=>?_);refine Exists.intro (JP1 _ _ o6 .normal (Q01 p0 p1)) (And.intro ?_ (Qa5 ?_))
      .have h:=ho;refine Qae h (λhb h=>?_) (λhb h=>?_)
       .exact JP1.a h (Le.ty 1 0)
       .exact JP1.a h (Le.ty 1 0)
      .have h:=hk;refine Qae h (λhb h=>?_) (λhb h=>?_)
       .refine Qam _ _ h (λx7 hy=>((Qbf 1 [1,1] p1 x7 hy).fr [0] [] rfl rfl rfl).weakC (.cons (.refl _) (.cons (.p (.not)) (.cons (.refl _) (.nil))))) (λx7 hy h=>?_);refine Qan (t:=Qa6) h ?_;exact .refl _
       .refine Qae h (λhb h=>?_) (λhb h=>?_)
        .refine Qam _ _ h (λx8 hy=>((Qbf 1 [1,1,1] p1 x8 hy).fr [0] [] rfl rfl rfl).weakC (.cons (.refl _) (.cons (.p (.not)) (.cons (.refl _) (.nil))))) (λx8 hy h=>?_);refine Qan (t:=Qa6) h ?_;exact .refl _
        .refine Qae h (λhb h=>?_) (λhb h=>?_)
         .refine Qam _ _ h (λx9 hy=>((Qbf 1 [7,1] p1 x9 hy).fr [0] [] rfl rfl rfl).weakC (.cons (.refl _) (.cons (.p (.not)) (.cons (.refl _) (.nil))))) (λx9 hy h=>?_);refine Qan (t:=Qa6) h ?_;exact .refl _
         .refine Qae h (λhb h=>?_) (λhb h=>?_)
          .refine Qam _ _ h (λx10 hy=>((Qbf 7 [8] p1 x10 hy).fr [0] [] rfl rfl rfl).weakC (.cons (.refl _) (.cons (.p (.not)) (.cons (.refl _) (.nil))))) (λx10 hy h=>?_);refine Qan (t:=Qa6) h ?_;exact .refl _
          .refine Qae h (λhb h=>?_) (λhb h=>?_)
           .refine Qam _ _ h (λx11 hy=>((Qbf 1 [8,1] p1 x11 hy).fr [0] [] rfl rfl rfl).weakC (.cons (.refl _) (.cons (.p (.not)) (.cons (.refl _) (.nil))))) (λx11 hy h=>?_);refine Qan (t:=Qa6) h ?_;exact .refl _
           .refine Qae h (λhb h=>?_) (λhb h=>?_)
            .refine Qam _ _ h (λx12 hy=>((Qbf 3 [8,1] p1 x12 hy).fr [0] [] rfl rfl rfl).weakC (.cons (.refl _) (.cons (.p (.not)) (.cons (.refl _) (.nil))))) (λx12 hy h=>?_);refine Qan (t:=Qa6) h ?_;exact .refl _
            .refine Qae h (λhb h=>?_) (λhb h=>?_)
             .refine view (Qcz _ _) rfl ?_;refine Qae h (λhb h=>?_) (λhb h=>?_)
              .refine Qbu (l:=p1) (c:=cInt) (c' := cInt) h (λ_=>rfl) (λ_=>rfl) (by decide) (λx13 hi h=>?_);refine Qas [iV x13] Qg6 h (λx14 hy=>(Qv0 x13 x14 hy)) (λx14 hy h=>?_);refine Qae h (λhb h=>?_) (λhb h=>?_)
               .refine Qan (t:=Qa6) h ?_;exact .refl _
               .refine Qan (t:=Qa6) h ?_;exact .refl _
              .refine Qan (t:=Qa6) h ?_;exact .refl _
             .refine Qae h (λhb h=>?_) (λhb h=>?_)
              .refine Qaj h (λo15 ho hk=>?_);refine Exists.intro (JP1 _ _ o15 .normal (Q02 p1)) (And.intro ?_ (Qa5 ?_))
               .have h:=ho;refine view (Qcz _ _) rfl ?_;refine Qae h (λhb h=>?_) (λhb h=>?_)
                .refine Qbu (l:=p1) (c:=cInt) (c' := cInt) h (λ_=>rfl) (λ_=>rfl) (by decide) (λx16 hi h=>?_);exact JP1.a h (Le.ty 1 0)
                .exact JP1.a h (Le.ty 1 0)
               .have h:=hk;refine Qae h (λhb h=>?_) (λhb h=>?_)
                .refine Qan (t:=Qa6) h ?_;exact .refl _
                .refine Qam _ _ h (λx17 hy=>((Qbf 1 [2] p1 x17 hy).fr [0] [] rfl rfl rfl).weakC (.cons (.refl _) (.cons (.p (.not)) (.cons (.refl _) (.nil))))) (λx17 hy h=>?_);refine Qan (t:=Qa6) h ?_;exact .refl _
              .refine Qae h (λhb h=>?_) (λhb h=>?_)
               .refine Qaj h (λo18 ho hk=>?_);refine Exists.intro (JP1 _ _ o18 .normal (Q03 p1)) (And.intro ?_ (Qa5 ?_))
                .have h:=ho;refine And.intro (by decide +kernel) (And.intro rfl ?_);refine view (Qcz _ _) rfl ?_;refine Qae h (λhb h=>?_) (λhb h=>?_)
                 .refine Qbu (l:=p1) (c:=cInt) (c' := cInt) h (λ_=>rfl) (λ_=>rfl) (by decide) (λx19 hi h=>?_);refine Qbu (l:=p1) (c:=cInt) (c' := cInt) h (λ_=>rfl) (λ_=>rfl) (by decide) (λx20 hi h=>?_);refine Qae h (λhb h=>?_) (λhb h=>?_)
                  .refine Qbu (l:=p1) (c:=cInt) (c' := cInt) h (λ_=>rfl) (λ_=>rfl) (by decide) (λx21 hi h=>?_);refine Qda [iV x21] Qmn h (λx22 hy=>(Quk x21 x22 hy)) (λx22 hy h=>?_);exact JP1.a h (Le.ty 1 0)
                  .exact JP1.a h (Le.ty 1 0)
                 .refine bF ?_;exact JP1.a h (Le.ty 1 0)
                .have h:=hk;refine Qae h (λhb h=>?_) (λhb h=>?_)
                 .refine Qan (t:=Qa6) h ?_;exact .refl _
                 .refine Qan (t:=Qa6) h ?_;exact .refl _
               .refine Qae h (λhb h=>?_) (λhb h=>?_)
                .refine Qam _ _ h (λx23 hy=>((Qbf 3 [2,2] p1 x23 hy).fr [0] [] rfl rfl rfl).weakC (.cons (.refl _) (.cons (.p (.not)) (.cons (.refl _) (.nil))))) (λx23 hy h=>?_);refine Qan (t:=Qa6) h ?_;exact .refl _
                .refine Qae h (λhb h=>?_) (λhb h=>?_)
                 .refine Qam _ _ h (λx24 hy=>((Qbf 2 [2,2] p1 x24 hy).fr [0] [] rfl rfl rfl).weakC (.cons (.refl _) (.cons (.p (.not)) (.cons (.refl _) (.nil))))) (λx24 hy h=>?_);refine Qan (t:=Qa6) h ?_;exact .refl _
                 .refine Qae h (λhb h=>?_) (λhb h=>?_)
                  .refine Qam _ _ h (λx25 hy=>((Qbf 2 [2,2] p1 x25 hy).fr [0] [] rfl rfl rfl).weakC (.cons (.refl _) (.cons (.p (.not)) (.cons (.refl _) (.nil))))) (λx25 hy h=>?_);refine Qan (t:=Qa6) h ?_;exact .refl _
                  .refine Qaj h (λo26 ho hk=>?_);refine Exists.intro (JP1 _ _ o26 .normal (Q04 p0 p1)) (And.intro ?_ (Qa5 ?_))
                   .have h:=ho;refine Qae h (λhb h=>?_) (λhb h=>?_)
                    .exact JP1.a h (Le.ty 1 0)
                    .exact JP1.a h (Le.ty 1 0)
                   .have h:=hk;refine Qae h (λhb h=>?_) (λhb h=>?_)
                    .refine Qam _ _ h (λx27 hy=>((Qbf 3 [3,3] p1 x27 hy).fr [0] [] rfl rfl rfl).weakC (.cons (.refl _) (.cons (.p (.not)) (.cons (.refl _) (.nil))))) (λx27 hy h=>?_);refine Qan (t:=Qa6) h ?_;exact .refl _
                    .refine Qae h (λhb h=>?_) (λhb h=>?_)
                     .refine Qam _ _ h (λx28 hy=>((Qbf 3 [3] p1 x28 hy).fr [0] [] rfl rfl rfl).weakC (.cons (.refl _) (.cons (.p (.not)) (.cons (.refl _) (.nil))))) (λx28 hy h=>?_);refine Qan (t:=Qa6) h ?_;exact .refl _
                     .refine Qan (t:=Qa6) h ?_;exact .refl _
def Qe6 (p0:Int) (p1:(List UInt8)) (x1:(List Qa3)) (v10:Int):Option (Unit⊕Int) :=
 if(decide (v10<(x1.length:Int))) then
  idx x1 v10>>=λx5 =>
  ( if(x5.of_==p0) then
    some (x5.name_==p1)
   else
    some false:Option (Bool))>>=λo6 =>
  if o6 then
   some (.inr x5.is_)
  else
   Qe6 p0 p1 x1 (wr (v10+1))
 else
  some (.inl ())
 partial_fixpoint
theorem Qada:∀ (p0:Int) (p1:(List UInt8)) (x1:(List Qa3)),(∀ (v10:Int) (o2:Unit⊕Int),Qe6 p0 p1 x1 v10=some o2->TL (0,0) Tryz.prog 27 Qzo (JP2 (0,0) 27 o2 (.exit 0) (Qpk p0 p1 x1) .ret (Qpl p0 p1 x1)) (Qks p0 p1 x1 v10)):=by
 intro p0 p1 x1;refine Qe6.partial_correctness p0 p1 x1 _ ?_;intro Qe6' iQe6 v10 o2 h;refine TL.round (Qaq mixed tbOk (lv:=Quf) _ _ _ ?_);refine Qae h (λhb h=>?_) (λhb h=>?_)
 .refine Qbu (l:=x1) (c:=Qj4) (c' := Qj4) h (λ_=>rfl) (λ_=>rfl) (by decide) (λx5 hi h=>?_);refine Qaj h (λo6 ho hk=>?_);refine Exists.intro (JP1 _ _ o6 .normal (Qzn p0 p1 x1 v10 x5)) (And.intro ?_ (Qa5 ?_))
  .have h:=ho;refine Qae h (λhb h=>?_) (λhb h=>?_)
   .exact JP1.a h (Le.ty 1 0)
   .exact JP1.a h (Le.ty 1 0)
  .have h:=hk;refine Qae h (λhb h=>?_) (λhb h=>?_)
   .exact JP2.b h (Le.ty 0 0)
   .refine TL.le (τ := Qks p0 p1 x1 (wr (v10+1))) ?_ ((iQe6 (wr (v10+1)) _ h));exact Le.ty 0 0
 .exact JP2.a h (Le.ty 0 0)
def Qrg:Option ((List Qa3)) :=
 some ([(Qa3.mk 4 [107,101,121] 1),(Qa3.mk 4 [118,97,108] 1),(Qa3.mk 5 [102,105,114,105,110,103] 3),(Qa3.mk 5 [115,116,97,114,116,115] 2),(Qa3.mk 5 [118,97,108,117,101] 2),(Qa3.mk 5 [108,97,98,101,108,115] 8),(Qa3.mk 5 [110,111,116,101,115] 8),(Qa3.mk 5 [108,105,110,107] 1),(Qa3.mk 6 [114,101,99,101,105,118,101,114] 1),(Qa3.mk 6 [102,105,114,105,110,103] 3),(Qa3.mk 6 [99,111,109,109,111,110] 8),(Qa3.mk 6 [108,105,110,107] 1),(Qa3.mk 6 [97,108,101,114,116,115] 9)])
theorem Q4t:∀ (o:(List Qa3)),Qrg  = some o->PCall Tryz.prog 149 [] (Qqv o):=by
 intro o h;unfold Qrg at h;refine PCall.ofY Q4r Tryz.func149 ?_;refine Qan (t:=Qqv) h ?_;exact .p (.not)
def Qla (p0:Int) (p1:(List UInt8)):Option (Int×Bool) :=
 Qrg>>=λx1 =>
 (Qe6 p0 p1 x1 0)>>=λo2 =>
 match o2 with
 | .inl y3 =>
  some (0,false)
 | .inr y4 =>
  some (y4,true)
theorem Q4u:∀ (p0:Int) (p1:(List UInt8)) (o:Int×Bool),Qla p0 p1=some o->PCall Tryz.prog 120 [iV p0,sV p1] (Qmm o):=by
 intro p0 p1 o h;unfold Qla at h;refine PCall.ofY Quf Tryz.func120 ?_;refine Qas [] Qqv h (λx1 hy=>(Q4t x1 hy)) (λx1 hy h=>?_);refine view (Qcz _ _) rfl ?_;refine Qaj h (λo2 ho hk=>?_);refine Exists.intro (JP2 _ _ o2 (.exit 0) (Qpk p0 p1 x1) .ret (Qpl p0 p1 x1)) (And.intro (Qk4 (τ := Qks p0 p1 x1 0) ?_ (TL.loop (Qada p0 p1 x1 0 o2 ho))) (Qke (λy3 hy=>?_) (λy4 hy=>?_)))
 .exact Le.ty 0 0
 .have h:=(by rw[hy] at hk; exact hk);refine Qan (t:=Qmm) h ?_;exact .refl _
 .have h:=(by rw[hy] at hk; exact hk);refine Qan (t:=Qmm) h ?_;exact .refl _
mutual
def Qhk (p0:Qaa) (p1:(List Qak)) (p2:(List (List UInt8))):Option (Int×Bool) :=
 if(p0.Kind==1) then
  some (1,true)
 else
  if(p0.Kind==2) then
   some (2,true)
  else
   if(p0.Kind==3) then
    some (3,true)
   else
    if(p0.Kind==4) then
     (Qe5 p0 p1 (wr ((p1.length:Int)-1)))>>=λo1 =>
     match o1 with
     | .inl y2 =>
      some (0,false)
     | .inr y3 =>
      some (y3.1,y3.2)
    else
     if(p0.Kind==7) then
      Qbb p2 p0.Name>>=λx6 =>
      if x6 then
       some (1,true)
      else
       some (0,false)
     else
      ( if(p0.Kind==5) then
        some (p0.Kind==5)
       else
        some (p0.Kind==6):Option (Bool))>>=λo7 =>
      if o7 then
       (Qgf p0 p1 p2 [] 0)>>=λo8 =>
       match o8 with
       | .inl y9 =>
        if(p0.Kind==6) then
         Qd4 p0.Name y9>>=λx14 =>
         some (x14.1,x14.2)
        else
         if((y9.length:Int)==1) then
          idx y9 0>>=λx15 =>
          Qla x15 p0.Name>>=λx16 =>
          some (x16.1,x16.2)
         else
          some (0,false)
       | .inr y10 =>
        some (0,false)
      else
       some (0,false)
 partial_fixpoint
def Qgf (p0:Qaa) (p1:(List Qak)) (p2:(List (List UInt8))) (v10:(List Int)) (v59:Int):Option ((List Int)⊕Unit) :=
 if(decide (v59<(p0.L.length:Int))) then
  idx p0.L v59>>=λx11 =>
  Qhk x11 p1 p2>>=λx12 =>
  if(!x12.2) then
   some (.inr ())
  else
   appL 8 v10 [x12.1]>>=λx13 =>
   Qgf p0 p1 p2 x13 (wr (v59+1))
 else
  some (.inl v10)
 partial_fixpoint
end
theorem Q06:∀ (p1:(List Qak)) (p2:(List (List UInt8))),(∀ (p0:Qaa) (o:Int×Bool),Qhk p0 p1 p2=some o->PCall Tryz.prog 87 [.agg [iV p0.Kind,sV p0.Name,sV p0.Text,iV p0.N,.sl false (p0.L.map Qab),.sl false (p0.Then.map Qab),.sl false (p0.Else.map Qab)],.sl false (p1.map Qbc),.sl false (p2.map cStr)] (Qbo o))/\(∀ (p0:Qaa) (v10:(List Int)) (v59:Int) (o8:(List Int)⊕Unit),Qgf p0 p1 p2 v10 v59=some o8->TL (0,0) Tryz.prog 97 Qzm (JP2 (0,0) 97 o8 (.exit 3) (Qpi p0 p1 p2) .ret (Qpj p0 p1 p2)) (Qkr p0 p1 p2 v10 v59)):=by
 intro p1 p2;refine Qhk.mutual_partial_correctness p1 p2 _ _ ?_ ?_
 .intro Qgf' iQgf p0 o h;refine PCall.ofY Qot Tryz.func87 ?_;refine Qae h (λhb h=>?_) (λhb h=>?_)
  .refine Qan (t:=Qbo) h ?_;exact .refl _
  .refine Qae h (λhb h=>?_) (λhb h=>?_)
   .refine Qan (t:=Qbo) h ?_;exact .refl _
   .refine Qae h (λhb h=>?_) (λhb h=>?_)
    .refine Qan (t:=Qbo) h ?_;exact .refl _
    .refine Qae h (λhb h=>?_) (λhb h=>?_)
     .refine view (Qcz _ _) rfl ?_;refine Qaj h (λo1 ho hk=>?_);refine Exists.intro (JP2 _ _ o1 (.exit 1) (Qpg p0 p1) .ret (Qph p0 p1)) (And.intro (Qk4 (τ := Qkq p0 p1 (wr ((p1.length:Int)-1))) ?_ (TL.loop (Qac9 p0 p1 (wr ((p1.length:Int)-1)) o1 ho))) (Qke (λy2 hy=>?_) (λy3 hy=>?_)))
      .exact Le.ty 1 0
      .have h:=(by rw[hy] at hk; exact hk);refine Qan (t:=Qbo) h ?_;exact .refl _
      .have h:=(by rw[hy] at hk; exact hk);refine Qan (t:=Qbo) h ?_;exact .refl _
     .refine Qae h (λhb h=>?_) (λhb h=>?_)
      .refine Qas [.sl false (p2.map cStr),sV p0.Name] Qb3 h (λx6 hy=>(Qef p2 p0.Name x6 hy)) (λx6 hy h=>?_);refine Qae h (λhb h=>?_) (λhb h=>?_)
       .refine Qan (t:=Qbo) h ?_;exact .refl _
       .refine Qan (t:=Qbo) h ?_;exact .refl _
      .refine Qaj h (λo7 ho hk=>?_);refine Exists.intro (JP1 _ _ o7 .normal (Qzl p0 p1 p2)) (And.intro ?_ (Qa5 ?_))
       .have h:=ho;refine Qae h (λhb h=>?_) (λhb h=>?_)
        .exact JP1.a h (Le.ty 1 0)
        .exact JP1.a h (Le.ty 1 0)
       .have h:=hk;refine Qae h (λhb h=>?_) (λhb h=>?_)
        .refine view (Qcz _ _) rfl ?_;refine Qaj h (λo8 ho hk=>?_);refine Exists.intro (JP2 _ _ o8 (.exit 3) (Qpi p0 p1 p2) .ret (Qpj p0 p1 p2)) (And.intro (Qk4 (τ := Qkr p0 p1 p2 [] 0) ?_ (TL.loop (iQgf p0 [] 0 o8 ho))) (Qke (λy9 hy=>?_) (λy10 hy=>?_)))
         .exact(Le.own 10 44 1 rfl Q9e).trans (Le.ty 1 1)
         .have h:=(by rw[hy] at hk; exact hk);refine Qae h (λhb h=>?_) (λhb h=>?_)
          .refine Qas [sV p0.Name,.sl false (y9.map cInt)] Qa6 h (λx14 hy=>(Q75 p0.Name y9 x14 hy)) (λx14 hy h=>?_);refine Qan (t:=Qbo) h ?_;exact .refl _
          .refine view (Qcz _ _) rfl ?_;refine Qae h (λhb h=>?_) (λhb h=>?_)
           .refine And.intro (by decide +kernel) (And.intro rfl ?_);refine Qbu (l:=y9) (c:=cInt) (c' := cInt) h (λ_=>rfl) (λ_=>rfl) (by decide) (λx15 hi h=>?_);refine Qda [iV x15,sV p0.Name] Qmm h (λx16 hy=>(Q4u x15 p0.Name x16 hy)) (λx16 hy h=>?_);refine Qan (t:=Qbo) h ?_;exact .refl _
           .refine Qan (t:=Qbo) h ?_;exact .refl _
         .have h:=(by rw[hy] at hk; exact hk);refine Qan (t:=Qbo) h ?_;exact .refl _
        .refine Qan (t:=Qbo) h ?_;exact .refl _
 .intro Qhk' Qgf' iQhk iQgf p0 v10 v59 o8 h;refine TL.round (Qaq mixed tbOk (lv:=Qot) _ _ _ ?_);refine Qae h (λhb h=>?_) (λhb h=>?_)
  .refine Qbu (l:=p0.L) (c:=Qab) (c' := Qbn) h Qar (λ_=>rfl) (by decide) (λx11 hi h=>?_);refine Qas [.agg [iV x11.Kind,sV x11.Name,sV x11.Text,iV x11.N,.sl false (x11.L.map Qab),.sl false (x11.Then.map Qab),.sl false (x11.Else.map Qab)],.sl false (p1.map Qbc),.sl false (p2.map cStr)] Qbo h (λx12 hy=>(iQhk x11 x12 hy)) (λx12 hy h=>?_);refine Qae h (λhb h=>?_) (λhb h=>?_)
   .exact JP2.b h (Le.ty 1 0)
   .refine Qms (a:=v10) (b:=[x12.1]) (c:=cInt) h (.refl _) (λ_=>rfl) rfl (λx13 hi h=>?_);refine TL.le (τ := Qkr p0 p1 p2 x13 (wr (v59+1))) ?_ ((iQgf p0 x13 (wr (v59+1)) _ h));exact Le.ty 1 1
  .exact JP2.a h (Le.ty 1 1)
theorem Q4v:∀ (p0:Qaa) (p1:(List Qak)) (p2:(List (List UInt8))) (o:Int×Bool),Qhk p0 p1 p2=some o->PCall Tryz.prog 87 [.agg [iV p0.Kind,sV p0.Name,sV p0.Text,iV p0.N,.sl false (p0.L.map Qab),.sl false (p0.Then.map Qab),.sl false (p0.Else.map Qab)],.sl false (p1.map Qbc),.sl false (p2.map cStr)] (Qbo o):=λp0 p1 p2=>(Q06 p1 p2).1 p0
mutual
def Qa8 (p1:(List UInt8)) (p2:(List Qaa)) (p3:(List Qak)) (h0_0:(List Qad)) (h0_1:(List (List UInt8))) (h1_0:(List (Qal×Int))):Option (((List (Qal×Int)))⊕((List UInt8)×(List (Qal×Int)))) :=
 (Qba p1 p2 p3 h0_0 h0_1 0 h1_0)>>=λo1 =>
 match o1 with
 | .inl y2 =>
  some (.inl y2)
 | .inr y3 =>
  some (.inr (y3.1,y3.2))
 partial_fixpoint
def Qba (p1:(List UInt8)) (p2:(List Qaa)) (p3:(List Qak)) (h0_0:(List Qad)) (h0_1:(List (List UInt8))) (v17:Int) (h1_0_:(List (Qal×Int))):Option (((List (Qal×Int)))⊕((List UInt8)×(List (Qal×Int)))) :=
 if(decide (v17<(p2.length:Int))) then
  idx p2 v17>>=λx4 =>
  if(x4.Kind==8) then
   Qba p1 p2 p3 h0_0 h0_1 (wr (v17+1)) h1_0_
  else
   idx x4.L 0>>=λx5 =>
   Qhk x5 p3 h0_1>>=λx6 =>
   Qb7 p3>>=λx7 =>
   ( if(x4.Kind==9) then
     if x6.2 then
      Qhj x6.1>>=λx9 =>
      some (x9,x7)
     else
      some (false,x7)
    else
     if(x4.Kind==10) then
      if x6.2 then
       some ((x6.1==3),x7)
      else
       some (false,x7)
     else
      if(x4.Kind==11) then
       Qj8 x6.1>>=λx10 =>
       ( if x6.2 then
         some x10.2
        else
         some false:Option (Bool))>>=λo11 =>
       appL 32 x7 [(Qak.mk x4.Name x10.1 false)]>>=λx12 =>
       some (o11,x12)
      else
       if(x4.Kind==12) then
        appL 32 x7 [(Qak.mk x4.Name x6.1 false)]>>=λx13 =>
        some (x6.2,x13)
       else
        some (x6.2,x7):Option ((Bool×(List Qak))))>>=λo8 =>
   if(!o8.1) then
    some (.inr (p1,h1_0_))
   else
    if(x4.Kind==13) then
     Qgg (Qal.mk x4.Name x6.1) h0_0 h0_1 h1_0_>>=λo15 =>
     match o15 with
     | .inl x14 =>
      Qba p1 p2 p3 h0_0 h0_1 (wr (v17+1)) x14
     | .inr z16 =>
      some (.inr (z16.1,z16.2))
    else
     Qa8 p1 x4.Then o8.2 h0_0 h0_1 h1_0_>>=λo18 =>
     match o18 with
     | .inl x17 =>
      Qa8 p1 x4.Else p3 h0_0 h0_1 x17>>=λo21 =>
      match o21 with
      | .inl x20 =>
       Qba p1 p2 p3 h0_0 h0_1 (wr (v17+1)) x20
      | .inr z22 =>
       some (.inr (z22.1,z22.2))
     | .inr z19 =>
      some (.inr (z19.1,z19.2))
 else
  some (.inl h1_0_)
 partial_fixpoint
def Qgg (p1:Qal) (h0_0:(List Qad)) (h0_1:(List (List UInt8))) (h1_0:(List (Qal×Int))):Option (((List (Qal×Int)))⊕((List UInt8)×(List (Qal×Int)))) :=
 if(decide (((mget (λ(a b:Qal)=>(a.name_==b.name_&&(a.it_==b.it_&&true))) p1 h1_0).getD 0)>0)) then
  some (.inl h1_0)
 else
  Qi2 h0_0 p1.name_>>=λx1 =>
  Qa8 p1.name_ x1.1 ([(Qak.mk [103,114,111,117,112] 6 false),(Qak.mk [105,116] p1.it_ false)]) h0_0 h0_1 h1_0>>=λo3 =>
  match o3 with
  | .inl x2 =>
   some (.inl (mset (λ(a b:Qal)=>(a.name_==b.name_&&(a.it_==b.it_&&true))) p1 1 x2))
  | .inr z4 =>
   some (.inr (z4.1,z4.2))
 partial_fixpoint
end
theorem Qov:∀ (h0_0:(List Qad)) (h0_1:(List (List UInt8))),(∀ (p1:(List UInt8)) (p2:(List Qaa)) (p3:(List Qak)) (h1_0:(List (Qal×Int))) (o:((List (Qal×Int)))⊕((List UInt8)×(List (Qal×Int)))),Qa8 p1 p2 p3 h0_0 h0_1 h1_0=some o->CallS Tryz.prog 67 [.ptr 0 0,.p (sV p1),.p (.sl false (p2.map Qab)),.p (.sl false (p3.map Qbc))] ⟨[[.p (.sl false (h0_0.map Qai)),.p (.sl false (h0_1.map cStr)),.mh 1],[mpD (λx =>.agg (Qay x)) iV h1_0]],[]⟩ Qfy (λ(o:(List (Qal×Int)))=>⟨[[.p (.sl false (h0_0.map Qai)),.p (.sl false (h0_1.map cStr)),.mh 1],[mpD (λx =>.agg (Qay x)) iV o]],[]⟩) (λ(o:(List UInt8)×(List (Qal×Int)))=>o.1) (λ(o:(List UInt8)×(List (Qal×Int)))=>⟨[[.p (.sl false (h0_0.map Qai)),.p (.sl false (h0_1.map cStr)),.mh 1],[mpD (λx =>.agg (Qay x)) iV o.2]],[]⟩) o)/\(∀ (p1:(List UInt8)) (p2:(List Qaa)) (p3:(List Qak)) (v17:Int) (h1_0_:(List (Qal×Int))) (o1:((List (Qal×Int)))⊕((List UInt8)×(List (Qal×Int)))),Qba p1 p2 p3 h0_0 h0_1 v17 h1_0_=some o1->TL (2,0) Tryz.prog 109 Qny (JP2p (2,0) 109 o1 (.exit 0) (Qgn p1 p2 p3 h0_0 h0_1) (λy3 =>.panic (Qle y3.1)) (Qgo p1 p2 p3 h0_0 h0_1)) (Qca p1 p2 p3 h0_0 h0_1 v17 h1_0_))/\(∀ (p1:Qal) (h1_0:(List (Qal×Int))) (o:((List (Qal×Int)))⊕((List UInt8)×(List (Qal×Int)))),Qgg p1 h0_0 h0_1 h1_0=some o->CallS Tryz.prog 91 [.ptr 0 0,.p (.agg [sV p1.name_,iV p1.it_])] ⟨[[.p (.sl false (h0_0.map Qai)),.p (.sl false (h0_1.map cStr)),.mh 1],[mpD (λx =>.agg (Qay x)) iV h1_0]],[]⟩ Qg5 (λ(o:(List (Qal×Int)))=>⟨[[.p (.sl false (h0_0.map Qai)),.p (.sl false (h0_1.map cStr)),.mh 1],[mpD (λx =>.agg (Qay x)) iV o]],[]⟩) (λ(o:(List UInt8)×(List (Qal×Int)))=>o.1) (λ(o:(List UInt8)×(List (Qal×Int)))=>⟨[[.p (.sl false (h0_0.map Qai)),.p (.sl false (h0_1.map cStr)),.mh 1],[mpD (λx =>.agg (Qay x)) iV o.2]],[]⟩) o):=by
 intro h0_0 h0_1;refine Qa8.mutual_partial_correctness h0_0 h0_1 _ _ _ ?_ ?_ ?_
 .intro Qba' iQba p1 p2 p3 h1_0 o h;refine CallS.ofB mixed tbOk Qik Tryz.func67 rfl (by kernel_rfl) (Nat.le_of_ble_eq_true rfl) (λ_=>rfl) (λ_=>rfl) (λ_=>rfl) (λ_=>rfl) (λ_=>rfl) ?_;refine view (Qcz _ _) rfl ?_;refine Qaj h (λo1 ho hk=>?_);refine Exists.intro (JP2p _ _ o1 (.exit 0) (Qgn p1 p2 p3 h0_0 h0_1) (λy3 =>.panic (Qle y3.1)) (Qgo p1 p2 p3 h0_0 h0_1)) (And.intro (Qk4 (τ := Qca p1 p2 p3 h0_0 h0_1 0 h1_0) ?_ (TL.loop (iQba p1 p2 p3 0 h1_0 o1 ho))) (Qakz (λy2 hy=>?_) (λy3 hy=>?_)))
  .exact Le.ty 2 0
  .have h:=(by rw[hy] at hk; exact hk);refine Exists.intro _ (And.intro (Le.refl _ _ _) ?_);exact Q9x (t:=Qfy) (ss:=λ(o:(List (Qal×Int)))=>⟨[[.p (.sl false (h0_0.map Qai)),.p (.sl false (h0_1.map cStr)),.mh 1],[mpD (λx =>.agg (Qay x)) iV o]],[]⟩) h ⟨[],rfl,.refl _,.refl _,rfl⟩
  .have h:=(by rw[hy] at hk; exact hk);refine xle ?_;refine Qafy (zp:=λ(o:(List UInt8)×(List (Qal×Int)))=>o.1) (sp:=λ(o:(List UInt8)×(List (Qal×Int)))=>⟨[[.p (.sl false (h0_0.map Qai)),.p (.sl false (h0_1.map cStr)),.mh 1],[mpD (λx =>.agg (Qay x)) iV o.2]],[]⟩) h rfl ?_;exact⟨[],rfl,.refl _,.refl _,rfl⟩
 .intro Qa8' Qba' Qgg' iQa8 iQba iQgg p1 p2 p3 v17 h1_0_ o1 h;refine TL.round (Qaq mixed tbOk (lv:=Qik) _ _ _ ?_);refine Qae h (λhb h=>?_) (λhb h=>?_)
  .refine Qbu (l:=p2) (c:=Qab) (c' := Qbn) h Qar (λ_=>rfl) (by decide) (λx4 hi h=>?_);refine Qae h (λhb h=>?_) (λhb h=>?_)
   .refine TL.le (τ := Qca p1 p2 p3 h0_0 h0_1 (wr (v17+1)) h1_0_) ?_ ((iQba p1 p2 p3 (wr (v17+1)) h1_0_ _ h));exact Le.ty 2 0
   .refine And.intro (by decide +kernel) (And.intro rfl ?_);refine Qbu (l:=x4.L) (c:=Qab) (c' := Qbn) h Qar (λ_=>rfl) (by decide) (λx5 hi h=>?_);refine Qda [.agg [iV x5.Kind,sV x5.Name,sV x5.Text,iV x5.N,.sl false (x5.L.map Qab),.sl false (x5.Then.map Qab),.sl false (x5.Else.map Qab)],.sl false (p3.map Qbc),.sl false (h0_1.map cStr)] Qbo h (λx6 hy=>(Q4v x5 p3 h0_1 x6 hy)) (λx6 hy h=>?_);refine Qam _ _ h (λx7 hy=>((Qh3 p3 x7 hy).fr [] [] rfl rfl rfl)) (λx7 hy h=>?_);refine Qaj h (λo8 ho hk=>?_);refine Exists.intro (JP1 _ _ o8 .normal (Qnw p1 p2 p3 h0_0 h0_1 v17 h1_0_ x4 x6)) (And.intro ?_ (Qa5 ?_))
    .have h:=ho;refine Qae h (λhb h=>?_) (λhb h=>?_)
     .refine Qae h (λhb h=>?_) (λhb h=>?_)
      .refine Qas [iV x6.1] Qmn h (λx9 hy=>(Quk x6.1 x9 hy)) (λx9 hy h=>?_);exact JP1.a h (Le.ty 3 1)
      .exact JP1.a h (Le.ty 3 1)
     .refine Qae h (λhb h=>?_) (λhb h=>?_)
      .refine Qae h (λhb h=>?_) (λhb h=>?_)
       .exact JP1.a h (Le.ty 3 1)
       .exact JP1.a h (Le.ty 3 1)
      .refine Qae h (λhb h=>?_) (λhb h=>?_)
       .refine Qas [iV x6.1] Qg6 h (λx10 hy=>(Qv0 x6.1 x10 hy)) (λx10 hy h=>?_);refine Qaj h (λo11 ho hk=>?_);refine Exists.intro (JP1 _ _ o11 .normal (Qnx p1 p2 p3 h0_0 h0_1 v17 h1_0_ x4 x6 x7 x10)) (And.intro ?_ (Qa5 ?_))
        .have h:=ho;refine Qae h (λhb h=>?_) (λhb h=>?_)
         .exact JP1.a h (Le.ty 3 1)
         .exact JP1.a h (Le.ty 3 1)
        .have h:=hk;refine Qx9 (a:=x7) (b:=[(Qak.mk x4.Name x10.1 false)]) (c:=Qbc) h (.refl _) (λ_=>rfl) rfl (λx12 hi h=>?_);refine JP1.a h ?_;exact Le.trans (τ := ⟨[(0,.ptr 0 0),(1,.p (sV p1)),(3,.p (.sl false (p3.map Qbc))),(9,.ptr 2 0),(10,.p (iV x6.1)),(11,.p (bV o11)),(12,.x 0 2 (.sl 46 3 (x12.map Qbc))),(15,.p (.sl false (p2.map Qab))),(16,.p (iV (p2.length:Int))),(17,.p (iV v17))],⟨[[.p (.sl false (h0_0.map Qai)),.p (.sl false (h0_1.map cStr)),.mh 1],[mpD (λx =>.agg (Qay x)) iV h1_0_],[.p (iV x4.Kind),.p (sV x4.Name),.p (sV x4.Text),.p (iV x4.N),.p (.sl false (x4.L.map Qab)),.p (.sl false (x4.Then.map Qab)),.p (.sl false (x4.Else.map Qab))]],[2]⟩⟩) (Le.ty 3 1) ((Le.ver (.s 12) 0 2 1 rfl rfl rfl rfl).trans (Le.ty 3 1))
       .refine Qae h (λhb h=>?_) (λhb h=>?_)
        .refine Qx9 (a:=x7) (b:=[(Qak.mk x4.Name x6.1 false)]) (c:=Qbc) h (.refl _) (λ_=>rfl) rfl (λx13 hi h=>?_);refine JP1.a h ?_;exact Le.trans (τ := ⟨[(0,.ptr 0 0),(1,.p (sV p1)),(3,.p (.sl false (p3.map Qbc))),(9,.ptr 2 0),(10,.p (iV x6.1)),(11,.p (bV x6.2)),(12,.x 0 2 (.sl 46 3 (x13.map Qbc))),(15,.p (.sl false (p2.map Qab))),(16,.p (iV (p2.length:Int))),(17,.p (iV v17))],⟨[[.p (.sl false (h0_0.map Qai)),.p (.sl false (h0_1.map cStr)),.mh 1],[mpD (λx =>.agg (Qay x)) iV h1_0_],[.p (iV x4.Kind),.p (sV x4.Name),.p (sV x4.Text),.p (iV x4.N),.p (.sl false (x4.L.map Qab)),.p (.sl false (x4.Then.map Qab)),.p (.sl false (x4.Else.map Qab))]],[2]⟩⟩) (Le.ty 3 1) ((Le.ver (.s 12) 0 2 1 rfl rfl rfl rfl).trans (Le.ty 3 1))
        .exact JP1.a h (Le.ty 3 1)
    .have h:=hk;refine Qae h (λhb h=>?_) (λhb h=>?_)
     .refine xle ?_;refine And.intro rfl (And.intro rfl (And.intro (λd h=>by cases h; exact Nat.le_of_ble_eq_true rfl) (Exists.intro p1 (And.intro rfl (And.intro rfl ?_)))));exact JP2p.b h (Le.ty 2 0)
     .refine Qae h (λhb h=>?_) (λhb h=>?_)
      .refine xle ?_;refine Qud _ _ _ _ h (λx14 hy=>((iQgg (Qal.mk x4.Name x6.1) h1_0_ (.inl x14) hy).a.fr [0,1] [] rfl rfl rfl)) (λz16 hy=>((iQgg (Qal.mk x4.Name x6.1) h1_0_ (.inr z16) hy).b.fr [0,1] [] rfl rfl rfl)) (λx14 hy h=>?_) (λz16 hy h=>?_)
       .refine TL.le (τ := Qca p1 p2 p3 h0_0 h0_1 (wr (v17+1)) x14) ?_ ((iQba p1 p2 p3 (wr (v17+1)) x14 _ h));exact Le.ty 2 0
       .exact JP2p.b h (Le.ty 2 0)
      .refine Exists.intro _ (And.intro (Le.frzv (.s 12) 0 1 rfl rfl rfl rfl) ?_);refine Qud _ _ _ _ h (λx17 hy=>((iQa8 p1 x4.Then o8.2 h1_0_ (.inl x17) hy).a.fr [0,1] [] rfl rfl rfl)) (λz19 hy=>((iQa8 p1 x4.Then o8.2 h1_0_ (.inr z19) hy).b.fr [0,1] [] rfl rfl rfl)) (λx17 hy h=>?_) (λz19 hy h=>?_)
       .refine xle ?_;refine Qud _ _ _ _ h (λx20 hy=>((iQa8 p1 x4.Else p3 x17 (.inl x20) hy).a.fr [0,1] [] rfl rfl rfl)) (λz22 hy=>((iQa8 p1 x4.Else p3 x17 (.inr z22) hy).b.fr [0,1] [] rfl rfl rfl)) (λx20 hy h=>?_) (λz22 hy h=>?_)
        .refine TL.le (τ := Qca p1 p2 p3 h0_0 h0_1 (wr (v17+1)) x20) ?_ ((iQba p1 p2 p3 (wr (v17+1)) x20 _ h));exact Le.ty 2 0
        .exact JP2p.b h (Le.ty 2 0)
       .exact JP2p.b h (Le.ty 2 0)
  .exact JP2p.a h (Le.ty 2 0)
 .intro Qa8' iQa8 p1 h1_0 o h;refine CallS.ofB mixed tbOk Qrw Tryz.func91 rfl (by kernel_rfl) (Nat.le_of_ble_eq_true rfl) (λ_=>rfl) (λ_=>rfl) (λ_=>rfl) (λ_=>rfl) (λ_=>rfl) ?_;refine And.intro (by decide +kernel) (And.intro rfl ?_);refine And.intro rfl ?_;refine Qsl (l:=h1_0) (k:=p1) (λ(a b:Qal)=>(a.name_==b.name_&&(a.it_==b.it_&&true))) (ck:=(λx =>.agg (Qay x))) (ca:=iV) (z0:=0) (by exact rfl) (by exact rfl) (by exact rfl) (by exact λ_ _=>rfl) (by exact rfl) (by exact .refl _) ?_;refine Qae h (λhb h=>?_) (λhb h=>?_)
  .refine Exists.intro _ (And.intro (Le.refl _ _ _) ?_);exact Q9x (t:=Qg5) (ss:=λ(o:(List (Qal×Int)))=>⟨[[.p (.sl false (h0_0.map Qai)),.p (.sl false (h0_1.map cStr)),.mh 1],[mpD (λx =>.agg (Qay x)) iV o]],[]⟩) h ⟨[],rfl,.refl _,.refl _,rfl⟩
  .refine And.intro (by decide +kernel) (And.intro rfl ?_);refine Qda [.sl false (h0_0.map Qai),sV p1.name_] Qhd h (λx1 hy=>(Qoj h0_0 p1.name_ x1 hy)) (λx1 hy h=>?_);refine xle ?_;refine Qud _ _ _ _ h (λx2 hy=>((iQa8 p1.name_ x1.1 ([(Qak.mk [103,114,111,117,112] 6 false),(Qak.mk [105,116] p1.it_ false)]) h1_0 (.inl x2) hy).a.fr [0,1] [] rfl rfl rfl).weakC (.cons (.refl _) (.cons (.refl _) (.cons (.refl _) (.cons (.p (.not)) (.nil)))))) (λz4 hy=>((iQa8 p1.name_ x1.1 ([(Qak.mk [103,114,111,117,112] 6 false),(Qak.mk [105,116] p1.it_ false)]) h1_0 (.inr z4) hy).b.fr [0,1] [] rfl rfl rfl).weakC (.cons (.refl _) (.cons (.refl _) (.cons (.refl _) (.cons (.p (.not)) (.nil)))))) (λx2 hy h=>?_) (λz4 hy h=>?_)
   .refine And.intro (by decide +kernel) (And.intro (by decide +kernel) (And.intro rfl ?_));refine Qabc (l:=x2) (k:=p1) (x:=1) (λ(a b:Qal)=>(a.name_==b.name_&&(a.it_==b.it_&&true))) (ck:=(λx =>.agg (Qay x))) (ca:=iV) (by exact rfl) (by exact rfl) (by exact rfl) (by exact .refl _) (by exact λ_ _=>rfl) ?_;refine Exists.intro _ (And.intro (Le.refl _ _ _) ?_);exact Q9x (t:=Qg5) (ss:=λ(o:(List (Qal×Int)))=>⟨[[.p (.sl false (h0_0.map Qai)),.p (.sl false (h0_1.map cStr)),.mh 1],[mpD (λx =>.agg (Qay x)) iV o]],[]⟩) h ⟨[],rfl,.refl _,.refl _,rfl⟩
   .refine xle ?_;refine Qafy (zp:=λ(o:(List UInt8)×(List (Qal×Int)))=>o.1) (sp:=λ(o:(List UInt8)×(List (Qal×Int)))=>⟨[[.p (.sl false (h0_0.map Qai)),.p (.sl false (h0_1.map cStr)),.mh 1],[mpD (λx =>.agg (Qay x)) iV o.2]],[]⟩) h rfl ?_;exact⟨[],rfl,.refl _,.refl _,rfl⟩
theorem Qil:∀ (p1:(List UInt8)) (p2:(List Qaa)) (p3:(List Qak)) (h0_0:(List Qad)) (h0_1:(List (List UInt8))) (h1_0:(List (Qal×Int))) (o:((List (Qal×Int)))⊕((List UInt8)×(List (Qal×Int)))),Qa8 p1 p2 p3 h0_0 h0_1 h1_0=some o->CallS Tryz.prog 67 [.ptr 0 0,.p (sV p1),.p (.sl false (p2.map Qab)),.p (.sl false (p3.map Qbc))] ⟨[[.p (.sl false (h0_0.map Qai)),.p (.sl false (h0_1.map cStr)),.mh 1],[mpD (λx =>.agg (Qay x)) iV h1_0]],[]⟩ Qfy (λ(o:(List (Qal×Int)))=>⟨[[.p (.sl false (h0_0.map Qai)),.p (.sl false (h0_1.map cStr)),.mh 1],[mpD (λx =>.agg (Qay x)) iV o]],[]⟩) (λ(o:(List UInt8)×(List (Qal×Int)))=>o.1) (λ(o:(List UInt8)×(List (Qal×Int)))=>⟨[[.p (.sl false (h0_0.map Qai)),.p (.sl false (h0_1.map cStr)),.mh 1],[mpD (λx =>.agg (Qay x)) iV o.2]],[]⟩) o:=λp1 p2 p3 h0_0 h0_1 h1_0=>(Qov h0_0 h0_1).1 p1 p2 p3 h1_0
def Qf0 (p0:(List Qad)) (p1:(List UInt8)) (p2:(List (List UInt8))):Option ((List UInt8)×Int) :=
 Qls p0>>=λx1 =>
 if(x1.2 != 0) then
  some (x1.1,x1.2)
 else
  Qi2 p0 p1>>=λx2 =>
  if(!x2.2) then
   some ([],4)
  else
   Qa8 p1 x2.1 [(Qak.mk [103,114,111,117,112] 6 false)] p0 p2 []>>=λo3 =>
   match o3 with
   | .inl x3 =>
    some ([],0)
   | .inr z4 =>
    some (z4.1,201)
theorem Qjj:∀ (p0:(List Qad)) (p1:(List UInt8)) (p2:(List (List UInt8))) (o:(List UInt8)×Int),Qf0 p0 p1 p2=some o->PCall Tryz.prog 35 [.sl false (p0.map Qai),sV p1,.sl false (p2.map cStr)] (Qck o):=by
 intro p0 p1 p2 o h;unfold Qf0 at h;refine Qafz (lv:=Q0y) rfl ?_;refine Qas [.sl false (p0.map Qai)] Qen h (λx1 hy=>(Q0t p0 x1 hy)) (λx1 hy h=>?_);refine Qae h (λhb h=>?_) (λhb h=>?_)
 .exact Qan (t:=Qck) h (.refl _)
 .refine Qas [.sl false (p0.map Qai),sV p1] Qhd h (λx2 hy=>(Qoj p0 p1 x2 hy)) (λx2 hy h=>?_);refine Qae h (λhb h=>?_) (λhb h=>?_)
  .exact Qan (t:=Qck) h (.refl _)
  .refine And.intro rfl (And.intro rfl (And.intro rfl (And.intro rfl (And.intro rfl ?_))));refine And.intro rfl (Exists.intro false ?_);refine xle ?_;refine Qud _ _ _ _ h (λx3 hy=>((Qil p1 x2.1 [(Qak.mk [103,114,111,117,112] 6 false)] p0 p2 [] (.inl x3) hy).a.fr [3,2] [] rfl rfl rfl).weakC (.cons (.refl _) (.cons (.refl _) (.cons (.refl _) (.cons (.p (.not)) .nil))))) (λz4 hy=>((Qil p1 x2.1 [(Qak.mk [103,114,111,117,112] 6 false)] p0 p2 [] (.inr z4) hy).b.fr [3,2] [] rfl rfl rfl).weakC (.cons (.refl _) (.cons (.refl _) (.cons (.refl _) (.cons (.p (.not)) .nil))))) (λx3 hy h=>?_) (λz4 hy h=>?_)
   .exact Qan (t:=Qck) h (.refl _)
   .refine Exists.intro z4.1 (And.intro rfl (And.intro rfl (And.intro rfl (And.intro rfl (And.intro rfl ?_)))));refine And.intro rfl (And.intro rfl ?_)
    first | (refine And.intro rfl ?_; exact Qan (t:=Qck) h (.refl _)) | (refine And.intro rfl (And.intro rfl ?_); exact Qan (t:=Qck) h (.refl _)) | (refine And.intro rfl (And.intro rfl (And.intro rfl ?_)); exact Qan (t:=Qck) h (.refl _))
def Qdt (p0:(List UInt8)):Option ((List Qad)) :=
 Qnv p0>>=λx1 =>
 some ([(Qad.mk [109] x1.1)])
theorem Qh5:∀ (p0:(List UInt8)) (o:(List Qad)),Qdt p0=some o->PCall Tryz.prog 65 [sV p0] (Qej o):=by
 intro p0 o h;unfold Qdt at h;refine PCall.ofY Qug Tryz.func65 ?_;refine Qas [sV p0] Qfw h (λx1 hy=>(Q70 p0 x1 hy)) (λx1 hy h=>?_);refine Qan (t:=Qej) h ?_;exact .p (.not)
def Qdj:Option (Bool) :=
 Qdt [123,123,32,101,97,99,104,32,97,32,105,110,32,103,114,111,117,112,46,97,108,101,114,116,115,32,125,125,123,123,32,103,101,116,40,97,46,108,97,98,101,108,115,44,32,34,120,34,41,32,125,125,123,123,32,101,110,100,32,125,125]>>=λx1 =>
 Qf0 x1 [109] []>>=λx2 =>
 Qdt [123,123,32,103,114,111,117,112,46,97,108,101,114,116,115,32,125,125]>>=λx3 =>
 Qf0 x3 [109] []>>=λx4 =>
 Qdt [123,123,32,105,102,32,103,114,111,117,112,46,108,105,110,107,32,125,125,123,123,32,101,110,100,32,125,125]>>=λx5 =>
 Qf0 x5 [109] []>>=λx6 =>
 ( if(x2.2==0) then
   if(x4.1==[109]) then
    if(x4.2==201) then
     some (x6.2==201)
    else
     some false
   else
    some false
  else
   some false:Option (Bool))>>=λo7 =>
 some o7
theorem Qkw:∀ (o:Bool),Qdj  = some o->PCall Tryz.prog 33 [] (Qe4 o):=by
 intro o h;unfold Qdj at h;refine PCall.ofY Qrx Tryz.func33 ?_;refine Qas [sV [123,123,32,101,97,99,104,32,97,32,105,110,32,103,114,111,117,112,46,97,108,101,114,116,115,32,125,125,123,123,32,103,101,116,40,97,46,108,97,98,101,108,115,44,32,34,120,34,41,32,125,125,123,123,32,101,110,100,32,125,125]] Qej h (λx1 hy=>(Qh5 [123,123,32,101,97,99,104,32,97,32,105,110,32,103,114,111,117,112,46,97,108,101,114,116,115,32,125,125,123,123,32,103,101,116,40,97,46,108,97,98,101,108,115,44,32,34,120,34,41,32,125,125,123,123,32,101,110,100,32,125,125] x1 hy)) (λx1 hy h=>?_);refine Qas [.sl false (x1.map Qai),sV [109],.sl true []] Qck h (λx2 hy=>(Qjj x1 [109] [] x2 hy).weak (.cons (.refl _) (.cons (.refl _) (.cons (.not) (.nil))))) (λx2 hy h=>?_);refine Qas [sV [123,123,32,103,114,111,117,112,46,97,108,101,114,116,115,32,125,125]] Qej h (λx3 hy=>(Qh5 [123,123,32,103,114,111,117,112,46,97,108,101,114,116,115,32,125,125] x3 hy)) (λx3 hy h=>?_);refine Qas [.sl false (x3.map Qai),sV [109],.sl true []] Qck h (λx4 hy=>(Qjj x3 [109] [] x4 hy).weak (.cons (.refl _) (.cons (.refl _) (.cons (.not) (.nil))))) (λx4 hy h=>?_);refine Qas [sV [123,123,32,105,102,32,103,114,111,117,112,46,108,105,110,107,32,125,125,123,123,32,101,110,100,32,125,125]] Qej h (λx5 hy=>(Qh5 [123,123,32,105,102,32,103,114,111,117,112,46,108,105,110,107,32,125,125,123,123,32,101,110,100,32,125,125] x5 hy)) (λx5 hy h=>?_)
 refine Qas [.sl false (x5.map Qai),sV [109],.sl true []] Qck h (λx6 hy=>(Qjj x5 [109] [] x6 hy).weak (.cons (.refl _) (.cons (.refl _) (.cons (.not) (.nil))))) (λx6 hy h=>?_);refine Qaj h (λo7 ho hk=>?_);refine Exists.intro (JP1 _ _ o7 .normal (Qpr )) (And.intro ?_ (Qa5 ?_))
 .have h:=ho;refine Qae h (λhb h=>?_) (λhb h=>?_)
  .refine Qae h (λhb h=>?_) (λhb h=>?_)
   .refine Qae h (λhb h=>?_) (λhb h=>?_)
    .exact JP1.a h (Le.ty 0 0)
    .exact JP1.a h (Le.ty 0 0)
   .refine bF ?_;exact JP1.a h (Le.ty 0 0)
  .refine bF ?_;refine bF ?_;exact JP1.a h (Le.ty 0 0)
 .have h:=hk;refine Qan (t:=Qe4) h ?_;exact .refl _
def Qbi (p0:Int) (p1:Bool) (v5:(List Qad)) (v6:Int):Option ((List Qad)) :=
 if(decide (v6<(wr (1+((wr p0).tmod 15))))) then
  b2s [(IntKind.u8.wrap (wr ((wr (97+v6))-1)))]>>=λx2 =>
  b2s [(IntKind.u8.wrap (wr (97+v6)))]>>=λx3 =>
  appL 40 v5 ([(Qad.mk x3 ([(Qaa.mk 13 x2 [] 0 ([(Qaa.mk 4 [105,116] [] 0 [] [] [])]) [] []),(Qaa.mk 13 x2 [] 0 ([(Qaa.mk 4 [105,116] [] 0 [] [] [])]) [] [])]))])>>=λx4 =>
  Qbi p0 p1 x4 (wr (v6+1))
 else
  some v5
 partial_fixpoint
theorem Qxd:∀ (p0:Int) (p1:Bool),(∀ (v5:(List Qad)) (v6:Int) (o1:(List Qad)),Qbi p0 p1 v5 v6=some o1->TL (0,0) Tryz.prog 88 Qly (JP1 (0,0) 88 o1 (.exit 0) (Qfz p0 p1)) (Qds p0 p1 v5 v6)):=by
 intro p0 p1;refine Qbi.partial_correctness p0 p1 _ ?_;intro Qbi' iQbi v5 v6 o1 h;refine TL.round (Qaq mixed tbOk (lv:=Qhi) _ _ _ ?_);refine vrfl ?_;refine And.intro (by decide) ?_;refine Qae h (λhb h=>?_) (λhb h=>?_)
 .refine vrfl ?_;refine Qx7 (l:=[(IntKind.u8.wrap (wr ((wr (97+v6))-1)))]) h (λx2 hi h=>?_);refine vrfl ?_;refine Qx7 (l:=[(IntKind.u8.wrap (wr (97+v6)))]) h (λx3 hi h=>?_);refine Qms (a:=v5) (b:=[(Qad.mk x3 ([(Qaa.mk 13 x2 [] 0 ([(Qaa.mk 4 [105,116] [] 0 [] [] [])]) [] []),(Qaa.mk 13 x2 [] 0 ([(Qaa.mk 4 [105,116] [] 0 [] [] [])]) [] [])]))]) (c:=Qai) h (.cons (.cons (.refl _) (.cons (.no (.cons (.ceq (Qar _) (.cons (.refl _) (.cons (.refl _) (.cons (.refl _) (.cons (.refl _) (.cons (.no (.cons (.ceq (Qar _) (.cons (.refl _) (.cons (.refl _) (.cons (.refl _) (.cons (.refl _) (.cons (.not) (.cons (.not) (.cons (.not) (.nil))))))))) (.nil))) (.cons (.not) (.cons (.not) (.nil))))))))) (.cons (.ceq (Qar _) (.cons (.refl _) (.cons (.refl _) (.cons (.refl _) (.cons (.refl _) (.cons (.no (.cons (.ceq (Qar _) (.cons (.refl _) (.cons (.refl _) (.cons (.refl _) (.cons (.refl _) (.cons (.not) (.cons (.not) (.cons (.not) (.nil))))))))) (.nil))) (.cons (.not) (.cons (.not) (.nil))))))))) (.nil)))) (.nil))) (.nil)) (λ_=>rfl) rfl (λx4 hi h=>?_);refine TL.le (τ := Qds p0 p1 x4 (wr (v6+1))) ?_ ((iQbi x4 (wr (v6+1)) _ h));exact Le.ty 0 1
 .exact JP1.a h (Le.ty 0 1)
def Qc4 (p0:Int) (p1:Bool):Option (Bool) :=
 (Qbi p0 p1 ([(Qad.mk [97] ([(Qaa.mk 9 [] [] 0 ([(Qaa.mk 4 [105,116] [] 0 [] [] [])]) [] [])]))]) 1)>>=λo1 =>
 ( if p1 then
   some (4,[103,114,111,117,112],0)
  else
   some (2,[],1):Option ((Int×(List UInt8)×Int)))>>=λo5 =>
 idx o1 (wr ((o1.length:Int)-1))>>=λx6 =>
 appL 40 o1 ([(Qad.mk [114,111,111,116] ([(Qaa.mk 13 x6.Name [] 0 ([(Qaa.mk o5.1 o5.2.1 [] o5.2.2 [] [] [])]) [] [])]))])>>=λx7 =>
 Qf0 x7 [114,111,111,116] []>>=λx8 =>
 if p1 then
  ( if(x8.1==[97]) then
    if(x8.2==201) then
     Qdj>>=λx10 =>
     some x10
    else
     some false
   else
    some false:Option (Bool))>>=λo9 =>
  some o9
 else
  ( if(x8.1==[]) then
    if(x8.2==0) then
     Qdj>>=λx12 =>
     some x12
    else
     some false
   else
    some false:Option (Bool))>>=λo11 =>
  some o11
theorem Qnz:∀ (p0:Int) (p1:Bool) (o:Bool),Qc4 p0 p1=some o->PCall Tryz.prog 11 [nV .u8 p0,bV p1] (Qe3 o):=by
 intro p0 p1 o h;unfold Qc4 at h;refine PCall.ofY Qhi Tryz.func11 ?_;refine Qaj h (λo1 ho hk=>?_);refine Exists.intro (JP1 _ _ o1 (.exit 0) (Qfz p0 p1)) (And.intro (Qk4 (τ := Qds p0 p1 ([(Qad.mk [97] ([(Qaa.mk 9 [] [] 0 ([(Qaa.mk 4 [105,116] [] 0 [] [] [])]) [] [])]))]) 1) ?_ (TL.loop (Qxd p0 p1 ([(Qad.mk [97] ([(Qaa.mk 9 [] [] 0 ([(Qaa.mk 4 [105,116] [] 0 [] [] [])]) [] [])]))]) 1 o1 ho))) (Qa5 ?_))
 .exact Le.trans (τ := ⟨[(0,.p (nV .u8 p0)),(1,.p (bV p1)),(5,.p (.sl true (([(Qad.mk [97] ([(Qaa.mk 9 [] [] 0 ([(Qaa.mk 4 [105,116] [] 0 [] [] [])]) [] [])]))]).map Qai))),(6,.p (iV 1))],⟨[],[]⟩⟩) (Le.tow 0 0 rfl (.cons rfl (.refl _) (.cons rfl (.refl _) (.cons rfl (.p (.sl' (λh=>h) (.cons (.cons (.refl _) (.cons (.no (.cons (.ceq (Qar _) (.cons (.refl _) (.cons (.refl _) (.cons (.refl _) (.cons (.refl _) (.cons (.no (.cons (.ceq (Qar _) (.cons (.refl _) (.cons (.refl _) (.cons (.refl _) (.cons (.refl _) (.cons (.not) (.cons (.not) (.cons (.not) (.nil))))))))) (.nil))) (.cons (.not) (.cons (.not) (.nil))))))))) (.nil))) (.nil))) (.nil)))) (.cons rfl (.refl _) (.nil))))) (.refl _) rfl) ((Le.ownW 5 56 2 rfl (Qu4 λ_=>rfl)).trans (Le.ty 0 1))
 have h:=hk;refine Qaj h (λo5 ho hk=>?_);refine Exists.intro (JP1 _ _ o5 .normal (Qlz p1 o1)) (And.intro ?_ (Qa5 ?_))
 .have h:=ho;refine Qae h (λhb h=>?_) (λhb h=>?_)
  .exact JP1.a h (Le.ty 1 1)
  .exact JP1.a h (Le.ty 1 1)
 .have h:=hk;refine And.intro (by decide +kernel) (And.intro rfl ?_);refine view (Qcz _ _) rfl ?_;refine Qbu (l:=o1) (c:=Qai) (c' := Qai) h (λ_=>rfl) (λ_=>rfl) (by decide) (λx6 hi h=>?_);refine Qms (a:=o1) (b:=[(Qad.mk [114,111,111,116] ([(Qaa.mk 13 x6.Name [] 0 ([(Qaa.mk o5.1 o5.2.1 [] o5.2.2 [] [] [])]) [] [])]))]) (c:=Qai) h (.cons (.cons (.refl _) (.cons (.no (.cons (.ceq (Qar _) (.cons (.refl _) (.cons (.refl _) (.cons (.refl _) (.cons (.refl _) (.cons (.no (.cons (.ceq (Qar _) (.cons (.refl _) (.cons (.refl _) (.cons (.refl _) (.cons (.refl _) (.cons (.not) (.cons (.not) (.cons (.not) (.nil))))))))) (.nil))) (.cons (.not) (.cons (.not) (.nil))))))))) (.nil))) (.nil))) (.nil)) (λ_=>rfl) rfl (λx7 hi h=>?_);refine Qas [.sl false (x7.map Qai),sV [114,111,111,116],.sl true []] Qck h (λx8 hy=>(Qjj x7 [114,111,111,116] [] x8 hy).weak (.cons (.refl _) (.cons (.refl _) (.cons (.not) (.nil))))) (λx8 hy h=>?_);refine Qae h (λhb h=>?_) (λhb h=>?_)
  .refine Qaj h (λo9 ho hk=>?_);refine Exists.intro (JP1 _ _ o9 .normal (Ql0 o5 x7)) (And.intro ?_ (Qa5 ?_))
   .have h:=ho;refine Qae h (λhb h=>?_) (λhb h=>?_)
    .refine Qae h (λhb h=>?_) (λhb h=>?_)
     .refine Qas [] Qe4 h (λx10 hy=>(Qkw x10 hy)) (λx10 hy h=>?_);exact JP1.a h (Le.ty 1 1)
     .exact JP1.a h (Le.ty 1 1)
    .refine bF ?_;exact JP1.a h (Le.ty 1 1)
   .have h:=hk;refine Qan (t:=Qe3) h ?_;exact .refl _
  .refine Qaj h (λo11 ho hk=>?_);refine Exists.intro (JP1 _ _ o11 .normal (Ql1 o5 x7)) (And.intro ?_ (Qa5 ?_))
   .have h:=ho;refine Qae h (λhb h=>?_) (λhb h=>?_)
    .refine Qae h (λhb h=>?_) (λhb h=>?_)
     .refine Qas [] Qe4 h (λx12 hy=>(Qkw x12 hy)) (λx12 hy h=>?_);exact JP1.a h (Le.ty 1 1)
     .exact JP1.a h (Le.ty 1 1)
    .refine bF ?_;exact JP1.a h (Le.ty 1 1)
   .have h:=hk;refine Qan (t:=Qe3) h ?_;exact .refl _
end Go.Proofs.YtfgegilhjlnohaaGreat
end

noncomputable section
namespace Go.Proofs.YtfgegilhjlnohaaGreat
open Go.RowKit
set_option linter.unusedSimpArgs false
set_option linter.unusedVariables false
abbrev Qv1:List Qbp:=[⟨[117,112,112,101,114],[1],1⟩,⟨[108,111,119,101,114],[1],1⟩,⟨[116,114,105,109],[1],1⟩,⟨[115,105,122,101],[1],2⟩,⟨[102,105,114,115,116],[1,2],1⟩,⟨[108,97,115,116],[1,2],1⟩,⟨[100,101,102,97,117,108,116],[1,1],1⟩,⟨[99,97,116],[1,1],1⟩,⟨[114,101,112,108,97,99,101],[1,1,1],1⟩,⟨[106,111,105,110],[7,1],1⟩,⟨[107,101,121,115],[8],7⟩,⟨[103,101,116],[8,1],1⟩,⟨[104,97,115],[8,1],3⟩,⟨[99,111,117,110,116],[7],2⟩,⟨[99,111,117,110,116],[8],2⟩,⟨[99,111,117,110,116],[9],2⟩,⟨[119,114,105,116,101],[2],1⟩,⟨[119,114,105,116,101],[3],1⟩,⟨[97,100,100],[2,2],2⟩,⟨[115,117,98],[2,2],2⟩,⟨[108,101,115,115],[2,2],3⟩,⟨[115,97,109,101],[1,1],3⟩,⟨[115,97,109,101],[2,2],3⟩,⟨[115,97,109,101],[3,3],3⟩,⟨[98,111,116,104],[3,3],3⟩,⟨[101,105,116,104,101,114],[3,3],3⟩,⟨[110,111,116],[3],3⟩]
def Qwm(s:Nm)(L:List Int):Int×Bool:=match Qv1.find? (λr=>r.Name==s&&r.In==L) with | none=>(0,false) | some r=>(r.Gives,true)
theorem Q92(s:Nm)(L:List Int)(x1:List Qbp)(v:Int)(i:Int):Qg8 s L x1 v false i=some false:=by
 rw[Qg8,if_neg (by simp),Qac,if_neg (by simp)]
theorem Qal5(s:Nm)(L:List Int)(x1:List Qbp)(v:Nat)(r:Qbp)(hr:x1[v]? = some r)(hl:r.In.length=L.length)(hL:L.length<=1000):∀ k,k<=L.length->Qg8 s L x1 v true k=some (r.In.drop k==L.drop k):=by
 refine upto ?_ λk hk ih=>?_
 .have:decide (((L.length:Nat):Int)<(L.length:Int))=false:=decide_eq_false (by omega);rw[Qg8,if_pos rfl,this,Qac,if_neg (by simp),List.drop_length,<-hl,List.drop_length]; rfl
 .have hk' : k<r.In.length:=by omega
  rw[Qg8,if_pos rfl,ltI,decide_eq_true hk,Qac,if_pos rfl,Qax,hr,Qac,Qax,getE hk', Qac,Qax,getE hk,Qac,Qce hk,Qce hk', List.cons_beq_cons,Qa0 (show k<9223372036854775807 by omega)];rcases Bool.eq_false_or_eq_true (r.In[k]==L[k]) with hb | hb
  .rw[hb,ih,Bool.true_and]
  .rw[hb,Q92,Bool.false_and]
theorem Qal6(s:Nm)(L:List Int)(x1:List Qbp)(hx:x1.length<=1000)(hL:L.length<=1000):∀ k,k<=x1.length->Qlv s L x1 k=some (match (x1.drop k).find? (λr=>r.Name==s&&r.In==L) with | none =>.inl () | some r =>.inr r.Gives):=by
 refine upto ?_ λk hk ih=>?_
 .have:decide (((x1.length:Nat):Int)<(x1.length:Int))=false:=decide_eq_false (by omega);rw[Qlv,this,if_neg (by simp),List.drop_length]; rfl
 .rw[Qlv,ltI,decide_eq_true hk,if_pos rfl,Qce hk,List.find?_cons,Qax,getE hk,Qac,Qa0 (show k<9223372036854775807 by omega),ih];rcases Bool.eq_false_or_eq_true (x1[k].Name==s) with hb | hb
  .rw[hb,if_pos rfl,Qac,Qac,Bool.true_and];by_cases hl:x1[k].In.length=L.length
   .have e:(((x1[k].In.length:Nat):Int)==(L.length:Int))=true:=by rw[hl]; simp
    have h2:=Qal5 s L x1 k x1[k] (getE hk) hl hL 0 (by omega);rw[show((0:Nat):Int)=0 from rfl,List.drop_zero,List.drop_zero] at h2;rw[e,h2,Qac];rcases Bool.eq_false_or_eq_true (x1[k].In==L) with hc | hc
    .rw[hc,if_pos rfl,Qac]
    .rw[hc,if_neg (by simp)]
   .have e:(((x1[k].In.length:Nat):Int)==(L.length:Int))=false:=by rw[beq_eq_false_iff_ne]; omega
    have hc:(x1[k].In==L)=false:=by rw[beq_eq_false_iff_ne]; exact λh=>hl (by rw[h])
    rw[e,Q92,Qac,if_neg (by simp),hc]
  .rw[hb,if_neg (by simp),Qac,Q92,Qac,if_neg (by simp),Bool.false_and]
theorem Qaj6(s:Nm)(L:List Int)(hL:L.length<=1000):Qxb s L=some (Qwm s L):=by
 have h:=Qal6 s L Qv1 (by decide) hL 0 (by omega);rw[show((0:Nat):Int)=0 from rfl,List.drop_zero] at h;have e:Qabt=some Qv1:=rfl;rw[Qxb,e,Qac,h,Qac,Qwm];cases Qv1.find? (λr=>r.Name==s&&r.In==L)<;>rfl
theorem Qal7(a b:List Int)(hl:a.length=b.length)(hb:b.length<=1000):∀ k,k<=a.length->Qaz a b k=some (if(a.drop k==b.drop k)=true then .inl () else .inr ()):=by
 refine upto ?_ λk hk ih=>?_
 .have:decide (((a.length:Nat):Int)<(a.length:Int))=false:=decide_eq_false (by omega);rw[Qaz,this,if_neg (by simp),List.drop_length,hl,List.drop_length]; rfl
 .have hk' : k<b.length:=by omega
  rw[Qaz,ltI,decide_eq_true hk,if_pos rfl,Qax,getE hk,Qac,Qax,getE hk', Qac,Qa0 (show k<9223372036854775807 by omega),ih,Qce hk,Qce hk', List.cons_beq_cons];by_cases hb:a[k]=b[k]
  .have h1:(a[k] != b[k])=false:=by rw[hb]; simp
   have h2:(a[k]==b[k])=true:=by rw[hb]; simp
   rw[h1,h2,if_neg (by simp),Bool.true_and]
  .have h1:(a[k] != b[k])=true:=by simpa using hb
   have h2:(a[k]==b[k])=false:=by simpa using hb
   rw[h1,h2,if_pos rfl,Bool.false_and,if_neg (by simp)]
theorem Qant(a b:List Int)(hb:b.length<=1000):Qbm a b=some (a==b):=by
 rw[Qbm];by_cases hl:a.length=b.length
 .have e:(((a.length:Nat):Int) != (b.length:Int))=false:=by rw[hl]; simp
  have h:=Qal7 a b hl hb 0 (by omega);rw[show((0:Nat):Int)=0 from rfl,List.drop_zero,List.drop_zero] at h;rw[e,if_neg (by simp),h,Qac];rcases Bool.eq_false_or_eq_true (a==b) with hc | hc
  .rw[hc,if_pos rfl]
  .rw[hc,if_neg (by simp)]
 .have e:(((a.length:Nat):Int) != (b.length:Int))=true:=by simpa using λh=>hl (by omega)
  have hc:(a==b)=false:=by rw[beq_eq_false_iff_ne]; exact λh=>hl (by rw[h])
  rw[e,if_pos rfl,hc]
theorem Qal8(g:Int)(w L:List Int)(hw:w.length<=1000):Qbe g w L=some (if(L==w)=true then(g,true) else(0,false)):=by
 rw[Qbe,Qant L w hw,Qac];rcases Bool.eq_false_or_eq_true (L==w) with hc | hc
 .rw[hc,if_neg (by simp),if_pos rfl]
 .rw[hc,if_pos (by simp),if_neg (by simp)]
theorem Qul(s:Nm)(L:List Int)(rs:List Qbp)(h:Qv1.filter (·.Name==s)=rs):Qwm s L=match rs.find? (·.In==L) with | none=>(0,false) | some r=>(r.Gives,true):=by
 rw[Qwm,<-h,List.find?_filter];have e:(λr:Qbp=>r.Name==s&&r.In==L)=λr=>decide ((r.Name==s)=true/\(r.In==L)=true):=by funext r; rw[Bool.decide_and,Bool.decide_coe,Bool.decide_coe]
 rw[e]
theorem kOne(s:Nm)(g:Int)(w L:List Int)(hw:w.length<=1000)(h1:Qd4 s L=(Qbe g w L>>=λx=>some (x.1,x.2)))(h2:Qv1.filter (·.Name==s)=[⟨s,w,g⟩]):Qd4 s L=some (Qwm s L):=by
 rw[h1,Qal8 g w L hw,Qul s L _ h2,Qac];have e:(w==L)=(L==w):=Bool.beq_comm;rcases Bool.eq_false_or_eq_true (L==w) with hc | hc
 .simp only[List.find?_cons,e,hc,if_true]
 .simp only[List.find?_cons,e,hc,List.find?_nil,Bool.false_eq_true,if_false]
def Q93:List Nm:=[[117,112,112,101,114],[108,111,119,101,114],[116,114,105,109],[115,105,122,101],[102,105,114,115,116],[108,97,115,116],[100,101,102,97,117,108,116],[99,97,116],[114,101,112,108,97,99,101],[106,111,105,110],[107,101,121,115],[103,101,116],[104,97,115],[97,100,100],[115,117,98],[108,101,115,115],[98,111,116,104],[101,105,116,104,101,114],[110,111,116]]
theorem Qal9(L:List Int):Qd4 [99,111,117,110,116] L=some (Qwm [99,111,117,110,116] L):=by
 have h1:Qd4 [99,111,117,110,116] L=(if((L.length:Int)==1) then idx L 0>>=λx=>Qj8 x>>=λy=>if y.2 then some (2,true) else some (0,false) else some (0,false)):=rfl;rw[h1,Qul _ L [⟨[99,111,117,110,116],[7],2⟩,⟨[99,111,117,110,116],[8],2⟩,⟨[99,111,117,110,116],[9],2⟩] rfl]
 match L with
 | []=>rfl
 | [a] =>
  have hi:idx [a] 0=some a:=rfl;have h0:((([a]:List Int).length:Int)==1)=true:=rfl;rw[if_pos h0,hi,Qac,Qj8];by_cases h7:a=7
  .subst h7; rfl
  .by_cases h8:a=8
   .subst h8; rfl
   .by_cases h9:a=9
    .subst h9; rfl
    .have e7:(a==7)=false:=by simpa using h7
     have e8:(a==8)=false:=by simpa using h8
     have e9:(a==9)=false:=by simpa using h9
     have f7:(([7]:List Int)==[a])=false:=by simpa using λh:(7:Int)=a=>h7 h.symm
     have f8:(([8]:List Int)==[a])=false:=by simpa using λh:(8:Int)=a=>h8 h.symm
     have f9:(([9]:List Int)==[a])=false:=by simpa using λh:(9:Int)=a=>h9 h.symm
     simp only[e7,e8,e9,List.find?_cons,f7,f8,f9,List.find?_nil];rfl
 | a::b::r =>
  have e:((((a::b::r).length:Nat):Int)==1)=false:=by rw[beq_eq_false_iff_ne]; simp; omega
  have f:∀ c:Int,([c]==a::b::r)=false:=λc=>by rw[beq_eq_false_iff_ne]; simp
  rw[e,if_neg (by simp)];simp only[List.find?_cons,f,List.find?_nil]
theorem Qama(L:List Int):Qd4 [119,114,105,116,101] L=some (Qwm [119,114,105,116,101] L):=by
 have h1:Qd4 [119,114,105,116,101] L=((if((L.length:Int)==1) then idx L 0>>=λx=>some (x==3) else some false:Option Bool)>>=λo=>if o then some (1,true) else Qbe 1 [2] L>>=λx=>some (x.1,x.2)):=rfl;rw[h1,Qal8 1 [2] L (by decide),Qul _ L [⟨[119,114,105,116,101],[2],1⟩,⟨[119,114,105,116,101],[3],1⟩] rfl]
 match L with
 | []=>rfl
 | [a] =>
  have hi:idx [a] 0=some a:=rfl;have h0:((([a]:List Int).length:Int)==1)=true:=rfl;rw[if_pos h0,hi,Qac,Qac];by_cases h7:a=3
  .subst h7; rfl
  .by_cases h8:a=2
   .subst h8; rfl
   .have e7:(a==3)=false:=by simpa using h7
    have f8:(([a]:List Int)==[2])=false:=by simpa using h8
    have g7:(([3]:List Int)==[a])=false:=by simpa using λh:(3:Int)=a=>h7 h.symm
    have g8:(([2]:List Int)==[a])=false:=by simpa using λh:(2:Int)=a=>h8 h.symm
    simp only[e7,f8,List.find?_cons,g7,g8,List.find?_nil];rfl
 | a::b::r =>
  have e:((((a::b::r).length:Nat):Int)==1)=false:=by rw[beq_eq_false_iff_ne]; simp; omega
  have f:∀ c:Int,([c]==a::b::r)=false:=λc=>by rw[beq_eq_false_iff_ne]; simp
  have g:(a::b::r==[2])=false:=by rw[beq_eq_false_iff_ne]; simp
  rw[e,if_neg (by simp),Qac,if_neg (by simp),g];simp only[List.find?_cons,f,List.find?_nil];rfl
theorem Qaij(k:Int):Qhj k=some (decide (1<=k/\k<=3)):=by
 rw[Qhj,Bool.decide_and];by_cases h:1<=k
 .rw[decide_eq_true (show k >= 1 from h),if_pos rfl,Qac,Bool.true_and]
 .rw[decide_eq_false (show ¬ k >= 1 from h),if_neg (by simp),Qac,Bool.false_and]
theorem Qamb(k:Int):Quh k=some (decide (1<=k/\k<=3)):=by
 rw[Quh];by_cases h1:k=1
 .subst h1; rfl
 .by_cases h2:k=2
  .subst h2; rfl
  .by_cases h3:k=3
   .subst h3; rfl
   .have e1:(k==1)=false:=by simpa using h1
    have e2:(k==2)=false:=by simpa using h2
    have e3:(k==3)=false:=by simpa using h3
    rw[e1,e2,e3,if_neg (by simp),if_neg (by simp),Qac,decide_eq_false (by omega)]
theorem Qanu(L:List Int):Qd4 [115,97,109,101] L=some (Qwm [115,97,109,101] L):=by
 have h1:Qd4 [115,97,109,101] L=((if((L.length:Int)==2) then idx L 0>>=λx=>idx L 1>>=λy=>if(x==y) then idx L 0>>=λz=>Qhj z>>=λu=>some u else some false else some false:Option Bool)>>=λo=>if o then some (3,true) else some (0,false)):=rfl;rw[h1,Qul _ L [⟨[115,97,109,101],[1,1],3⟩,⟨[115,97,109,101],[2,2],3⟩,⟨[115,97,109,101],[3,3],3⟩] rfl]
 match L with
 | []=>rfl
 | [a] =>
  have f:∀ c:Int,([c,c]==[a])=false:=λc=>by rw[beq_eq_false_iff_ne]; simp
  simp only[List.find?_cons,f,List.find?_nil];rfl
 | [a,b] =>
  have hi:idx [a,b] 0=some a:=rfl;have hj:idx [a,b] 1=some b:=rfl;have h0:((([a,b]:List Int).length:Int)==2)=true:=rfl;rw[if_pos h0,hi,Qac,hj,Qac,Qac,Qaij,Qac];by_cases hab:a=b
  .subst hab;rw[if_pos (by simp),Qac];by_cases h7:a=1
   .subst h7; rfl
   .by_cases h8:a=2
    .subst h8; rfl
    .by_cases h9:a=3
     .subst h9; rfl
     .have f:∀ c:Int,c≠a->([c,c]==[a,a])=false:=λc hc=>by rw[beq_eq_false_iff_ne]; simpa using hc
      rw[decide_eq_false (by omega)];simp only[List.find?_cons,f 1 (Ne.symm h7),f 2 (Ne.symm h8),f 3 (Ne.symm h9),List.find?_nil];rfl
  .have f:∀ c:Int,([c,c]==[a,b])=false:=λc=>by
    rw[beq_eq_false_iff_ne];intro h;have h1:c=a:=by simpa using congrArg (λl=>l.head?) h
    have h2:c=b:=by
     have:=congrArg (λl:List Int=>l[1]?) h;simpa using this
    exact hab (h1.symm.trans h2)
   rw[if_neg (by simpa using hab),Qac,if_neg (by simp)];simp only[List.find?_cons,f,List.find?_nil]
 | a::b::d::r =>
  have e:((((a::b::d::r).length:Nat):Int)==2)=false:=by rw[beq_eq_false_iff_ne]; simp; omega
  have f:∀ c:Int,([c,c]==a::b::d::r)=false:=λc=>by rw[beq_eq_false_iff_ne]; simp
  rw[e,if_neg (by simp),Qac,if_neg (by simp)];simp only[List.find?_cons,f,List.find?_nil]
theorem Qaj7(s:Nm)(L:List Int):Qd4 s L=some (Qwm s L):=by
 by_cases h:s ∈ Q93
 .simp only[Q93,List.mem_cons,List.not_mem_nil,or_false] at h;rcases h with rfl | rfl | rfl | rfl | rfl | rfl | rfl | rfl | rfl | rfl | rfl | rfl | rfl | rfl | rfl | rfl | rfl | rfl | rfl
  .exact kOne _ 1 [1] L (by decide) rfl rfl
  .exact kOne _ 1 [1] L (by decide) rfl rfl
  .exact kOne _ 1 [1] L (by decide) rfl rfl
  .exact kOne _ 2 [1] L (by decide) rfl rfl
  .exact kOne _ 1 [1,2] L (by decide) rfl rfl
  .exact kOne _ 1 [1,2] L (by decide) rfl rfl
  .exact kOne _ 1 [1,1] L (by decide) rfl rfl
  .exact kOne _ 1 [1,1] L (by decide) rfl rfl
  .exact kOne _ 1 [1,1,1] L (by decide) rfl rfl
  .exact kOne _ 1 [7,1] L (by decide) rfl rfl
  .exact kOne _ 7 [8] L (by decide) rfl rfl
  .exact kOne _ 1 [8,1] L (by decide) rfl rfl
  .exact kOne _ 3 [8,1] L (by decide) rfl rfl
  .exact kOne _ 2 [2,2] L (by decide) rfl rfl
  .exact kOne _ 2 [2,2] L (by decide) rfl rfl
  .exact kOne _ 3 [2,2] L (by decide) rfl rfl
  .exact kOne _ 3 [3,3] L (by decide) rfl rfl
  .exact kOne _ 3 [3,3] L (by decide) rfl rfl
  .exact kOne _ 3 [3] L (by decide) rfl rfl
 .by_cases hc:s=[99,111,117,110,116]
  .rw[hc]; exact Qal9 L
  .by_cases hw:s=[119,114,105,116,101]
   .rw[hw]; exact Qama L
   .by_cases hs:s=[115,97,109,101]
    .rw[hs]; exact Qanu L
    .simp only[Q93,List.mem_cons,List.not_mem_nil,or_false,not_or] at h;have b:∀ t:Nm,s≠t->(s==t)=false:=λt ht=>by simpa using ht
     have c:∀ t:Nm,s≠t->(t==s)=false:=λt ht=>by simpa using λe=>ht (Eq.symm e)
     obtain⟨a1,a2,a3,a4,a5,a6,a7,a8,a9,a10,a11,a12,a13,a14,a15,a16,a17,a18,a19⟩:=h;have h0:Qv1.filter (·.Name==s)=[]:=by
      simp only[Qv1,List.filter_cons,c _ a1,c _ a2,c _ a3,c _ a4,c _ a5,c _ a6,c _ a7,c _ a8,c _ a9,c _ a10,c _ a11,c _ a12,c _ a13,c _ a14,c _ a15,c _ a16,c _ a17,c _ a18,c _ a19,c _ hc,c _ hw,c _ hs,Bool.false_eq_true,if_false,List.filter_nil]
     rw[Qul s L [] h0,Qd4];simp only[b _ a1,b _ a2,b _ a3,b _ a4,b _ a5,b _ a6,b _ a7,b _ a8,b _ a9,b _ a10,b _ a11,b _ a12,b _ a13,b _ a14,b _ a15,b _ a16,b _ a17,b _ a18,b _ a19,b _ hc,b _ hw,b _ hs,Bool.false_eq_true,if_false,Qac,List.find?_nil]
abbrev Q94:List Qa3:=[⟨4,[107,101,121],1⟩,⟨4,[118,97,108],1⟩,⟨5,[102,105,114,105,110,103],3⟩,⟨5,[115,116,97,114,116,115],2⟩,⟨5,[118,97,108,117,101],2⟩,⟨5,[108,97,98,101,108,115],8⟩,⟨5,[110,111,116,101,115],8⟩,⟨5,[108,105,110,107],1⟩,⟨6,[114,101,99,101,105,118,101,114],1⟩,⟨6,[102,105,114,105,110,103],3⟩,⟨6,[99,111,109,109,111,110],8⟩,⟨6,[108,105,110,107],1⟩,⟨6,[97,108,101,114,116,115],9⟩]
def fldR(k:Int)(s:Nm):Int×Bool:=match Q94.find? (λf=>f.of_==k&&f.name_==s) with | none=>(0,false) | some f=>(f.is_,true)
theorem Qaj8(k:Int)(s:Nm)(rs:List Qa3)(h:Q94.filter (·.of_==k)=rs):fldR k s=match rs.find? (·.name_==s) with | none=>(0,false) | some r=>(r.is_,true):=by
 rw[fldR,<-h,List.find?_filter];have e:(λf:Qa3=>f.of_==k&&f.name_==s)=λr=>decide ((r.of_==k)=true/\(r.name_==s)=true):=by funext r; rw[Bool.decide_and,Bool.decide_coe,Bool.decide_coe]
 rw[e]
theorem Qanv(k:Int)(s:Nm)(x1:List Qa3)(hx:x1.length<=1000):∀ i,i<=x1.length->Qe6 k s x1 i=some (match (x1.drop i).find? (λf=>f.of_==k&&f.name_==s) with | none =>.inl () | some f =>.inr f.is_):=by
 refine upto ?_ λi hi ih=>?_
 .have:decide (((x1.length:Nat):Int)<(x1.length:Int))=false:=decide_eq_false (by omega);rw[Qe6,this,if_neg (by simp),List.drop_length]; rfl
 .rw[Qe6,ltI,decide_eq_true hi,if_pos rfl,Qce hi,List.find?_cons,Qax,getE hi,Qac,Qa0 (show i<9223372036854775807 by omega),ih];rcases Bool.eq_false_or_eq_true (x1[i].of_==k) with hb | hb
  .rw[hb,if_pos rfl,Qac,Bool.true_and];rcases Bool.eq_false_or_eq_true (x1[i].name_==s) with hc | hc
   .rw[hc,if_pos rfl]
   .rw[hc,if_neg (by simp)]
  .rw[hb,if_neg (by simp),Qac,if_neg (by simp),Bool.false_and]
theorem Qamc(k:Int)(s:Nm):Qla k s=some (fldR k s):=by
 have h:=Qanv k s Q94 (by decide) 0 (by omega);rw[show((0:Nat):Int)=0 from rfl,List.drop_zero] at h;have e:Qrg=some Q94:=rfl;rw[Qla,e,Qac,h,Qac,fldR];cases Q94.find? (λf=>f.of_==k&&f.name_==s)<;>rfl
theorem Qanw(s:Nm)(ns:List Nm)(ks:List Int)(hl:ns.length=ks.length)(hx:ns.length<=1000):∀ i,i<=ns.length->Qj5 s (ns,ks) i=some (match ((ns.zip ks).drop i).find? (·.1==s) with | none =>.inl () | some q =>.inr q.2):=by
 refine upto ?_ λi hi ih=>?_
 .have:decide (((ns.length:Nat):Int)<(ns.length:Int))=false:=decide_eq_false (by omega);rw[Qj5,this,if_neg (by simp),List.drop_eq_nil_of_le (by simp; omega)]; rfl
 .have hi' : i<ks.length:=by omega
  have hz:i<(ns.zip ks).length:=by simp; omega
  rw[Qj5,ltI,decide_eq_true hi,if_pos rfl,Qce hz,List.find?_cons,Qax,getE hi,Qac,Qa0 (show i<9223372036854775807 by omega),ih,List.getElem_zip];rcases Bool.eq_false_or_eq_true (ns[i]==s) with hb | hb
  .rw[if_pos hb,Qax,getE hi', Qac,hb]
  .rw[if_neg (by simp[hb]),hb]
theorem Qaht(k:Int)(s:Nm)(ns:List Nm)(ks:List Int)(hl:ns.length=ks.length)(hx:ns.length<=1000)(h1:Qvf k=some (ns,ks))(h2:Q94.filter (·.of_==k)=(ns.zip ks).map λq=>⟨k,q.1,q.2⟩):Qqw k s=some (fldR k s):=by
 have h:=Qanw s ns ks hl hx 0 (by omega);rw[show((0:Nat):Int)=0 from rfl,List.drop_zero] at h;rw[Qqw,h1,Qac,h,Qac,Qaj8 k s _ h2,List.find?_map];have e:((λr:Qa3=>r.name_==s) ∘ λq:Nm×Int=>(⟨k,q.1,q.2⟩:Qa3))=λq=>q.1==s:=rfl
 rw[e];cases (ns.zip ks).find? (λq=>q.1==s)<;>rfl
theorem Qamd(k:Int)(s:Nm):Qqw k s=some (fldR k s):=by
 by_cases h4:k=4
 .subst h4; exact Qaht 4 s _ _ rfl (by decide) rfl rfl
 .by_cases h5:k=5
  .subst h5; exact Qaht 5 s _ _ rfl (by decide) rfl rfl
  .by_cases h6:k=6
   .subst h6; exact Qaht 6 s _ _ rfl (by decide) rfl rfl
   .have e4:(k==4)=false:=by simpa using h4
    have e5:(k==5)=false:=by simpa using h5
    have e6:(k==6)=false:=by simpa using h6
    have f4:((4:Int)==k)=false:=by simpa using λe=>h4 (Eq.symm e)
    have f5:((5:Int)==k)=false:=by simpa using λe=>h5 (Eq.symm e)
    have f6:((6:Int)==k)=false:=by simpa using λe=>h6 (Eq.symm e)
    refine Qaht k s [] [] rfl (by decide) ?_ ?_
    .rw[Qvf,e4,e5,e6]; rfl
    .simp only[Q94,List.filter_cons,f4,f5,f6,Bool.false_eq_true,if_false,List.filter_nil]; rfl
theorem Qanx(k:Int):Qj8 k=Qxc k:=rfl
def Q07(k:Int):Int×Bool:=if k==7 then(1,true) else if k==8 then(4,true) else if k==9 then(5,true) else(0,false)
theorem Qame(k:Int):Qxc k=some (Q07 k):=by
 rw[Qxc,Q07];split
 .rfl
 .split
  .rfl
  .split<;>rfl
theorem Qaj9(k:Int):Q4s k=some (Qwl k):=by
 rw[Q4s];by_cases h1:k<1
 .rw[decide_eq_true h1,if_pos rfl,Qac,if_pos rfl];unfold Qwl;by_cases h0:k<0
  .rw[if_pos (.inl h0)]
  .have:k=0:=by omega
   subst this; rfl
 .by_cases h9:k>9
  .rw[decide_eq_false h1,if_neg (by simp),decide_eq_true h9,Qac,if_pos rfl,Qwl,if_pos (.inr (by omega))]
  .rw[decide_eq_false h1,if_neg (by simp),decide_eq_false h9,Qac,if_neg (by simp)];have:k=1\/k=2\/k=3\/k=4\/k=5\/k=6\/k=7\/k=8\/k=9:=by omega
   rcases this with rfl | rfl | rfl | rfl | rfl | rfl | rfl | rfl | rfl<;>(rw[Qff (by omega) (by omega)]; rfl)
def bndK(l:List Qak)(s:Nm):Int×Bool:=match l.reverse.find? (·.Name==s) with | none=>(0,false) | some b=>(b.K,!(Qwl b.K==[]))
theorem Qamf(l:List Qak)(s:Nm)(hl:l.length<=1000):∀ k,k<=l.length->Qj6 l s ((k:Int)-1)=some (match (l.take k).reverse.find? (·.Name==s) with | none =>.inl () | some b =>.inr (b.K,!(Qwl b.K==[])))
 | 0,_=>by rw[Qj6]; simp
 | k+1,hk=>by
  have e:(((k+1:Nat):Int)-1)=(k:Int):=by omega
  have hp:decide ((k:Int) >= 0)=true:=decide_eq_true (by omega);have e2:wr ((k:Int)-1)=(k:Int)-1:=Qff (by omega) (by omega);rw[Qj6,e,hp,if_pos rfl,Qax,getE (show k<l.length by omega),Qac,Qabq l k (by omega),List.find?_cons];rcases Bool.eq_false_or_eq_true (l[k].Name==s) with hb | hb
  .simp only[hb,if_true,Qac,Qaj9]
  .simp only[hb,Bool.false_eq_true,if_false];rw[e2];exact Qamf l s hl k (by omega)
theorem Qamg(l:List Qak)(s:Nm)(hl:l.length<=1000):Qzr l s=some (bndK l s):=by
 have:=Qamf l s hl l.length (Nat.le_refl _);rw[List.take_length] at this;rw[Qzr,Qff (by omega) (by omega),this,bndK,Qac];cases l.reverse.find? (·.Name==s)<;>rfl
theorem Qamh(x:Qaa)(l:List Qak)(hl:l.length<=1000):∀ k,k<=l.length->Qe5 x l ((k:Int)-1)=some (match (l.take k).reverse.find? (·.Name==x.Name) with | none =>.inl () | some b =>.inr (b.K,!(Qwl b.K==[])))
 | 0,_=>by rw[Qe5]; simp
 | k+1,hk=>by
  have e:(((k+1:Nat):Int)-1)=(k:Int):=by omega
  have hp:decide ((k:Int) >= 0)=true:=decide_eq_true (by omega);have e2:wr ((k:Int)-1)=(k:Int)-1:=Qff (by omega) (by omega);rw[Qe5,e,hp,if_pos rfl,Qax,getE (show k<l.length by omega),Qac,Qabq l k (by omega),List.find?_cons];rcases Bool.eq_false_or_eq_true (l[k].Name==x.Name) with hb | hb
  .simp only[hb,if_true,Quj,Qac]
  .simp only[hb,Bool.false_eq_true,if_false];rw[e2];exact Qamh x l hl k (by omega)
mutual
def kdN:Qaa->List Qak->List Nm->Int×Bool
 | ⟨k,s,_,_,a,_,_⟩,l,z=>if k==1 then(1,true) else if k==2 then(2,true) else if k==3 then(3,true) else if k==4 then bndK l s else if k==7 then(if decide (s ∈ z)=true then(1,true) else(0,false)) else
  if k==5||k==6 then(match kdL a l z with | none=>(0,false) | some ks=>if k==6 then Qwm s ks else match ks with | [y]=>fldR y s | _=>(0,false)) else(0,false)
def kdL:List Qaa->List Qak->List Nm->Option (List Int)
 | [],_,_=>some []
 | x::r,l,z=>if(kdN x l z).2 then(kdL r l z).map ((kdN x l z).1 :: ·) else none
end
def Qahu(x:Qaa)(ks:List Int):Int×Bool:=if x.Kind==6 then Qwm x.Name ks else match ks with | [y]=>fldR y x.Name | _=>(0,false)
theorem Qaik(x:Qaa)(l:List Qak)(z:List Nm):kdN x l z=if x.Kind==1 then(1,true) else if x.Kind==2 then(2,true) else if x.Kind==3 then(3,true) else if x.Kind==4 then bndK l x.Name else if x.Kind==7 then(if decide (x.Name ∈ z)=true then(1,true) else(0,false)) else
  if x.Kind==5||x.Kind==6 then(match kdL x.L l z with | none=>(0,false) | some ks=>Qahu x ks) else(0,false):=by cases x; rw[kdN]; rfl
theorem Q95:∀ {a:List Qaa} {l:List Qak} {z:List Nm} {ks:List Int},kdL a l z=some ks->ks.length=a.length
 | [],_,_,_,h=>by rw[kdL] at h; cases h; rfl
 | x::r,l,z,ks,h=>by
  rw[kdL] at h;split at h
  .obtain⟨k,hk,rfl⟩:=Option.map_eq_some_iff.1 h;rw[List.length_cons,List.length_cons,Q95 hk]
  .cases h
theorem rKdL(x:Qaa)(l:List Qak)(z:List Nm)(hx:x.L.length<=1000)(ih:∀ y ∈ x.L,Qui y l z=some (kdN y l z)):∀ k,k<=x.L.length->∀ v:List Int,v.length<=k->Qlw x l z v k=some (match kdL (x.L.drop k) l z with | none =>.inr () | some ks =>.inl (v++ks)):=by
 refine upto ?_ λk hk ih2=>?_
 .intro v _;have:decide (((x.L.length:Nat):Int)<(x.L.length:Int))=false:=decide_eq_false (by omega);rw[Qlw,this,if_neg (by simp),List.drop_length,kdL];simp
 .intro v hv;rw[Qlw,ltI,decide_eq_true hk,if_pos rfl,Qce hk,kdL,Qax,getE hk,Qac,ih _ (List.getElem_mem hk),Qac];rcases Bool.eq_false_or_eq_true (kdN x.L[k] l z).2 with hb | hb
  .rw[hb,if_neg (by simp),Qfg (by simp; omega) (by simp; omega),Qac,Qa0 (show k<9223372036854775807 by omega),ih2 _ (by simp; omega),if_pos rfl];cases kdL (x.L.drop (k+1)) l z with
   | none=>rfl
   | some ks=>simp
  .rw[hb,if_pos (by simp),if_neg (by simp)]
theorem cKdL(x:Qaa)(l:List Qak)(z:List Nm)(hx:x.L.length<=1000)(ih:∀ y ∈ x.L,Qhk y l z=some (kdN y l z)):∀ k,k<=x.L.length->∀ v:List Int,v.length<=k->Qgf x l z v k=some (match kdL (x.L.drop k) l z with | none =>.inr () | some ks =>.inl (v++ks)):=by
 refine upto ?_ λk hk ih2=>?_
 .intro v _;have:decide (((x.L.length:Nat):Int)<(x.L.length:Int))=false:=decide_eq_false (by omega);rw[Qgf,this,if_neg (by simp),List.drop_length,kdL];simp
 .intro v hv;rw[Qgf,ltI,decide_eq_true hk,if_pos rfl,Qce hk,kdL,Qax,getE hk,Qac,ih _ (List.getElem_mem hk),Qac];rcases Bool.eq_false_or_eq_true (kdN x.L[k] l z).2 with hb | hb
  .rw[hb,if_neg (by simp),Qfg (by simp; omega) (by simp; omega),Qac,Qa0 (show k<9223372036854775807 by omega),ih2 _ (by simp; omega),if_pos rfl];cases kdL (x.L.drop (k+1)) l z with
   | none=>rfl
   | some ks=>simp
  .rw[hb,if_pos (by simp),if_neg (by simp)]
theorem Qail(x:Qaa)(o:Option (List Int))(hl:∀ ks,o=some ks->ks.length<=1000){f:Nm->List Int->Option (Int×Bool)}{g:Int->Nm->Option (Int×Bool)}(hf:∀ s L,L.length<=1000->f s L=some (Qwm s L))(hg:∀ k s,g k s=some (fldR k s)) :
  ((some (match o with | none =>.inr () | some ks =>.inl ([]++ks)):Option ((List Int)⊕Unit))>>=λo4=>match o4 with
   | .inl y5=>if(x.Kind==6) then f x.Name y5>>=λx10=>some (x10.1,x10.2) else if((y5.length:Int)==1) then idx y5 0>>=λx11=>g x11 x.Name>>=λx12=>some (x12.1,x12.2) else some (0,false)
   | .inr _=>some (0,false))=some (match o with | none=>(0,false) | some ks=>Qahu x ks):=by
 cases o with
 | none=>rfl
 | some ks =>
  have hk:=hl ks rfl;clear hl;show(if(x.Kind==6) then f x.Name ks>>=λx10=>some (x10.1,x10.2) else if((ks.length:Int)==1) then idx ks 0>>=λx11=>g x11 x.Name>>=λx12=>some (x12.1,x12.2) else some (0,false))=some (Qahu x ks);unfold Qahu;by_cases h6:(x.Kind==6)=true
  .rw[if_pos h6,if_pos h6,hf _ _ hk]; rfl
  .rw[if_neg h6,if_neg h6]
   match ks with
   | []=>rfl
   | [y] =>
    have hi:idx [y] 0=some y:=rfl;have h0:((([y]:List Int).length:Int)==1)=true:=rfl;rw[if_pos h0,hi,Qac,hg]; rfl
   | a::b::r =>
    rw[if_neg (by simp; omega)]
theorem rKd(l:List Qak)(z:List Nm)(hl:l.length<=1000)(hz:z.length<=1000):∀ n (x:Qaa),n<=1000->nn x<=n->Qui x l z=some (kdN x l z)
 | 0,x,_,h=>by have:=Qkv x; omega
 | n+1,x,hn,h=>by
  have e:=Qi3 x;have hlen:=Qfj x.L;have hL:=rKdL x l z (by omega) (λy hy=>rKd l z hl hz n y (by omega) (by have:=Qfk hy; omega)) 0 (by omega) [] (by simp);rw[show((0:Nat):Int)=0 from rfl,List.drop_zero] at hL;have hT:=Qail x (kdL x.L l z) (λks hk=>by rw[Q95 hk]; omega) (f:=Qxb) (g:=Qqw) (λs L hL=>Qaj6 s L hL) (λk s=>Qamd k s);rw[Qui,Qaik,Qamg l _ hl,rIn z _ (by omega),hL];by_cases h1:(x.Kind==1)=true
  .rw[if_pos h1,if_pos h1]
  .rw[if_neg h1,if_neg h1];by_cases h2:(x.Kind==2)=true
   .rw[if_pos h2,if_pos h2]
   .rw[if_neg h2,if_neg h2];by_cases h3:(x.Kind==3)=true
    .rw[if_pos h3,if_pos h3]
    .rw[if_neg h3,if_neg h3];by_cases h4:(x.Kind==4)=true
     .rw[if_pos h4,if_pos h4]; rfl
     .rw[if_neg h4,if_neg h4];by_cases h7:(x.Kind==7)=true
      .rw[if_pos h7,if_pos h7,Qac];split<;>rfl
      .rw[if_neg h7,if_neg h7];rcases Bool.eq_false_or_eq_true (x.Kind==5) with h5 | h5
       .rw[h5,if_pos rfl,Qac,if_pos rfl,Bool.true_or,if_pos rfl]; exact hT
       .rw[h5,if_neg (by simp),Qac,Bool.false_or];by_cases h6:(x.Kind==6)=true
        .rw[if_pos h6,if_pos h6]; exact hT
        .rw[if_neg h6,if_neg h6]
theorem cKd(l:List Qak)(z:List Nm)(hl:l.length<=1000)(hz:z.length<=1000):∀ n (x:Qaa),n<=1000->nn x<=n->Qhk x l z=some (kdN x l z)
 | 0,x,_,h=>by have:=Qkv x; omega
 | n+1,x,hn,h=>by
  have e:=Qi3 x;have hlen:=Qfj x.L;have hL:=cKdL x l z (by omega) (λy hy=>cKd l z hl hz n y (by omega) (by have:=Qfk hy; omega)) 0 (by omega) [] (by simp);rw[show((0:Nat):Int)=0 from rfl,List.drop_zero] at hL;have hT:=Qail x (kdL x.L l z) (λks hk=>by rw[Q95 hk]; omega) (f:=Qd4) (g:=Qla) (λs L _=>Qaj7 s L) (λk s=>Qamc k s);have hB:=Qamh x l hl l.length (Nat.le_refl _);rw[List.take_length] at hB;rw[Qhk,Qaik,Qff (by omega) (by omega),hB,Q7p z _ (by omega),hL];by_cases h1:(x.Kind==1)=true
  .rw[if_pos h1,if_pos h1]
  .rw[if_neg h1,if_neg h1];by_cases h2:(x.Kind==2)=true
   .rw[if_pos h2,if_pos h2]
   .rw[if_neg h2,if_neg h2];by_cases h3:(x.Kind==3)=true
    .rw[if_pos h3,if_pos h3]
    .rw[if_neg h3,if_neg h3];by_cases h4:(x.Kind==4)=true
     .rw[if_pos h4,if_pos h4,bndK,Qac];cases l.reverse.find? (·.Name==x.Name)<;>rfl
     .rw[if_neg h4,if_neg h4];by_cases h7:(x.Kind==7)=true
      .rw[if_pos h7,if_pos h7,Qac];split<;>rfl
      .rw[if_neg h7,if_neg h7];rcases Bool.eq_false_or_eq_true (x.Kind==5) with h5 | h5
       .rw[h5,if_pos rfl,Qac,if_pos rfl,Bool.true_or,if_pos rfl]; exact hT
       .rw[h5,if_neg (by simp),Qac,Bool.false_or];by_cases h6:(x.Kind==6)=true
        .rw[if_pos h6,if_pos h6]; exact hT
        .rw[if_neg h6,if_neg h6]
end Go.Proofs.YtfgegilhjlnohaaGreat
end
