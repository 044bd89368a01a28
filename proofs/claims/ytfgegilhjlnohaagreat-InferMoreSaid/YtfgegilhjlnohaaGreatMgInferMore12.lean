/- A part of the proof. -/
import Derived.Test.YtfgegilhjlnohaaGreatMgInferMore11
import Derived.Recover
import Derived.RecoverIn

noncomputable section
namespace Go.Proofs.YtfgegilhjlnohaaGreat
open Go.RowKit
set_option linter.unusedSimpArgs false
set_option linter.unusedVariables false
section
variable {P:Program} {tb:Tbl}
theorem Qags(hT:TblOk P tb){fn:Func}{C:Nat→Nat→Prop}{w w' : World}{G' : Gh}{σ' : St}{a' : Act}(hE:Ex (0,0) ⟨fun b o=>C b o∧b<w.heap.size,[],[]⟩ w G' w')(hR' : Rel fn.ntmps G' σ' a' w'){r:D}
  (hq:Qhc tb σ' fn.results.toList fun ds=>match retD ds with | some d=>LeD d r | none=>False) :
  ∃ v,(results fn a'.tmps).run P w' = .ok v w' ∧ DRel ⟨fun b o=>C b o∨w.heap.size≤b,[],[]⟩ w' r v∧Below w.heap.size w w' := by
 obtain⟨ds,us', h1,h2,h3,h4⟩:=Qf5 hT hR' _ _ hq;split at h4
 ·rename_i d hd;obtain⟨k1,k2⟩:=Q6p h2 h3 hd;refine⟨if h:us'.toArray.size=1 then us'.toArray[0] else .tuple us'.toArray,?_,DRel.le ?_ h4,⟨hE.ext.os,hE.ext.tape,hE.ext.output,hE.ext.size,fun k hk=>hE.ext.old k hk (by simp) (by simp)⟩⟩
  ·unfold results;rw[Sem.run_bind,Array.mapM_eq_mapM_toList,Sem.run_map]
   erw [h1]
   rfl
  ·have hcom:∀ b o,G'.com b o→C b o∨w.heap.size≤b:=fun b o hc=>by
    rcases hE.ext.new b o hc with h | h | h | ⟨T,h,_⟩
    ·exact .inl h.1
    ·exact .inr h
    ·simp at h
    ·simp at h
   rcases k2 with ⟨x,rfl⟩ | ⟨xs,rfl⟩
   ·generalize (if h:us'.toArray.size=1 then us'.toArray[0] else Value.tuple us'.toArray)=q at k1;cases k1 with
    | p _ _ k1=>exact .p _ _ (k1.mono (Nat.le_refl _) fun b o u h1 h2=>⟨hcom b o h1,h2⟩)
   ·generalize (if h:us'.toArray.size=1 then us'.toArray[0] else Value.tuple us'.toArray)=q at k1;cases k1 with
    | tup _ vs l1 l2 =>
     refine .tup _ _ l1 (fun j c u hc hu=>?_);have:=l2 j c u hc hu;rw[List.getElem?_map] at hc;obtain⟨x,-,rfl⟩:=Option.map_eq_some_iff.1 hc;cases this with
     | p _ _ k1=>exact .p _ _ (k1.mono (Nat.le_refl _) fun b o u h1 h2=>⟨hcom b o h1,h2⟩)
 ·exact h4.elim
theorem PCall.ofW{f:FuncId}{fn:Func}{c:Code}(hf:P.funcs[f]? = some fn)(hb:fn.body=some c)(hn:isFn P f=true){args:List V}(hN:args.length≤fn.ntmps){r:D}
  (h:∀ (C:Nat→Nat→Prop) (w:World) (a:Act) (R:Ending→World→Prop),(∀ v w', DRel ⟨fun b o=>C b o∨w.heap.size≤b,[],[]⟩ w' r v→Below w.heap.size w w' → R (.returned v) w') →
   Rel fn.ntmps ⟨fun b o=>C b o∧b<w.heap.size,[],[]⟩ ⟨Q0p args 0,⟨[],[]⟩⟩ a w→a.defers=[]→c.wpIn Fence.wide 0 P (bodyPostM Fence.wide 0 P fn R) a w):PCall P f args r:=by
 refine⟨hn,fun C w us hgl hl hrel=>?_⟩;have hR:Rel fn.ntmps ⟨fun b o=>C b o∧b<w.heap.size,[],[]⟩ ⟨Q0p args 0,⟨[],[]⟩⟩ { tmps:=us++Array.replicate (fn.ntmps-us.size) undef,defers:=[] } w:=by
  refine⟨⟨fun b o h=>⟨h.2,by simp,by simp⟩,rfl,by simp,fun i b cs h=>by simp at h,rfl,fun t T b h=>by simp at h,fun T h=>by simp at h,hgl.mono fun b o u h1 h2=>⟨⟨h1,Q0b h2⟩,h2⟩⟩,fun t d hd=>?_,by simp; omega⟩;obtain⟨x,h1,h2,rfl⟩:=Qtf args 0 t d hd;have hlt:t<args.length:=(List.getElem?_eq_some_iff.1 h1).1;have hlt2:t<us.size:=by omega
  refine⟨by simp; omega,.p x _ (DRel.lt ?_)⟩;refine hrel t x _ h1 ?_;simp only[Array.getD_eq_getD_getElem?,Array.getElem?_append_left hlt2,Array.getElem?_eq_getElem hlt2,Option.getD_some]
 exact callsIn_wide.1 (callsIn_of_wp_marks (F:=Fence.wide) (n:=0) hf hb trivial (h C w _ _ (fun v w' h1 h2=>⟨v,rfl,h1,h2⟩) hR rfl))
theorem Qw5{fn:Func}{a:Act}{G:Gh}{σ : St}{R:Ending→World→Prop}{db:List Deferred}{u:FrameMode}(hu:u ≠ .run){lo:Nat}{B:Nat×Nat}{G0:Gh}{w0:World}
  (h:∀ w', Ex B G0 w0 G w' → Rel fn.ntmps G σ a w' → LeavesInM Fence.wide 0 P fn a.tmps R db u w') {w:World} (hF:Fr none ⟨lo,db⟩ G a w) (hlo:w0.heap.size≤lo) (hE:Ex B G0 w0 G w) (hR:Rel fn.ntmps G σ a w):LeavesInM Fence.wide 0 P fn a.tmps R a.defers u w:=by
 have key:∀ (Ds:List Nat) (w' : World),Ds.Nodup→Ex B G0 w0 G w' → Rel fn.ntmps G σ a w' → (∀ b ∈ Ds,lo≤b∧w'.heap[b]? = some (.deferred (some []))∧b ∉ G.name∧∀ T ∈ G.tok,¬ T.has b)→LeavesInM Fence.wide 0 P fn a.tmps R (Ds.map Qnm++db) u w' := by
  intro Ds
  induction Ds with
  | nil=>exact fun w' _ hE hR' _=>h w' hE hR'
  | cons b Ds ih =>
   intro w' hnd hE hR' hD;obtain⟨d1,d2,d3,d4⟩:=hD b (by simp);have hnb:¬ G.has b:=fun hh=>hh.elim d3 fun⟨T,hT,ht⟩=>d4 T hT ht
   have hk:Kept G.has G.com w' (w'.putObj b (.deferred none)):=Qh0 _ d2 (Qu9 d2) hnb;refine⟨hu,.inl ⟨b,_,rfl,run_takeDeferred d2,ih _ (List.nodup_cons.1 hnd).2 (hE.kept hk fun i hi=>World.putObj_heap_other (by omega)) (hR'.kept hk) fun i hi=>?_⟩⟩;obtain⟨k1,k2,k3⟩:=hD i (by simp[hi]);refine⟨k1,?_,k3⟩;rw[World.putObj_heap_other (fun(e:i=b)=>(List.nodup_cons.1 hnd).1 (e ▸ hi))];exact k2
 obtain⟨Ds,m1,m2,m3⟩:=hF.marks;have hl:=key Ds w m2 hE hR m3;rw[← m1] at hl;exact hl
def Qap2(hid:Nat):Code→Bool
 | .region id _ _=>id==hid
 | _=>false
def bwpH(B:Nat×Nat)(P:Program)(tb:Tbl)(N:Nat)(lv:List (Nat×List Nat))(hid:Nat):Code→(Exit→St→Prop)→(St→Prop)→St→Prop
 | .seq x y,Q,K,σ => match Qap2 hid x with
  | true=>K σ
  | false=>bwp B P tb N lv x (fun e σ' => match e with | .normal=>bwpH B P tb N lv hid y Q K σ' | e=>Q e σ') σ
 | c,Q,_,σ => bwp B P tb N lv c Q σ
def Qaev(hid:Nat):Code→Code
 | .seq x y=>match Qap2 hid x with
  | true =>.seq x y
  | false=>Qaev hid y
 | c=>c
theorem Qaia(hm:P.follows .mixedOrders=true)(hT:TblOk P tb){B:Nat×Nat}{N:Nat}{lv:List (Nat×List Nat)}{hid:Nat}{Post:Exit→Act→World→Prop}{rd:Option Nat}{lo:Lo}{G0:Gh}{w0:World}{Q:Exit→St→Prop}{K:St→Prop}
  (hQ:∀ e G' σ' a' w', Ex B G0 w0 G' w' → Rel N G' σ' a' w' → Fr rd lo G' a' w' → Q e σ' → Post e a' w') :
  ∀ (c:Code) (σ : St) (G:Gh) (a:Act) (w:World),bwpH B P tb N lv hid c Q K σ → Ex B G0 w0 G w→Rel N G σ a w→Fr rd lo G a w →
   (∀ G' σ' a' w', Ex B G0 w0 G' w' → Rel N G' σ' a' w' → Fr rd lo G' a' w' → K σ' → (Qaev hid c).wpIn (FW rd) 0 P Post a' w')→c.wpIn (FW rd) 0 P Post a w:=by
 have base:∀ (c:Code) (σ : St) (G:Gh) (a:Act) (w:World),bwp B P tb N lv c Q σ → Ex B G0 w0 G w→Rel N G σ a w→Fr rd lo G a w→c.wpIn (FW rd) 0 P Post a w:=fun c σ G a w h hE hR hF =>
  wpIn_mono ((Qao hm hT c _ _ h).out rd lo G a w hR hF) fun e a' w' ⟨G', σ', e1,r1,f1,q1⟩=>hQ e G' σ' a' w' (hE.trans e1) r1 f1 q1
 intro c
 induction c with
 | seq x y ihx ihy =>
  intro σ G a w h hE hR hF hK;unfold bwpH at h;unfold Qaev at hK;cases hx:Qap2 hid x with
  | true =>
   rw[hx] at h hK;exact hK G σ a w hE hR hF h
  | false =>
   rw[hx] at h hK;refine wpIn_seq (wpIn_mono ((Qao hm hT x _ _ h).out rd lo G a w hR hF) fun e a' w' ⟨G', σ', e1,r1,f1,q1⟩=>?_);cases e with
   | normal=>exact ihy σ' G' a' w' q1 (hE.trans e1) r1 f1 hK
   | exit id=>exact hQ _ G' σ' a' w' (hE.trans e1) r1 f1 q1
   | goto l=>exact hQ _ G' σ' a' w' (hE.trans e1) r1 f1 q1
   | ret=>exact hQ _ G' σ' a' w' (hE.trans e1) r1 f1 q1
   | panic ch=>exact hQ _ G' σ' a' w' (hE.trans e1) r1 f1 q1
   | outgrown=>exact hQ _ G' σ' a' w' (hE.trans e1) r1 f1 q1
 | _=>intro σ G a w h hE hR hF hK; exact base _ σ G a w h hE hR hF
theorem Q53(hT:TblOk P tb){B:Nat×Nat}{N id:Nat}{ops:Array Oper}{Q:Exit→St→Prop}{σ : St}(h:bwp B P tb N [] (.region id ops false) Q σ){rd:Option Nat}{G:Gh}{a:Act}{w:World}(hR:Rel N G σ a w) :
  (Code.region id ops false).wpIn (FW rd) 0 P (fun e a' w' => ∃ G' σ', Ex B G w G' w' ∧ Rel N G' σ' a' w' ∧ a'.defers=a.defers∧Q e σ') a w:=by
 have h:rwp P tb N [] id ops false (Q .normal) σ := h;unfold rwp at h;rw[Q6o] at h;have h:bOps true P tb N ops.toList (List.range ops.toList.length) σ fun σ' => Q .normal (keep none σ'):=h
 have hops:ops.toList.toArray=ops:=by simp
 refine wpIn_region ?_;have:=Qtg hT (rd:=rd) (ops:=ops.toList) (Q:=fun e a' w' => ∃ G' σ', Ex B G w G' w' ∧ Rel N G' σ' a' w' ∧ a'.defers=a.defers∧Q e σ') (G0:=G) (w0:=w) (ds:=a.defers) (fun a' w' G' σ' hE hR' hd hK=>⟨G', _,hE,Qgy hR' _,hd,hK⟩) _ σ a w G (.refl B G w) hR rfl h;rw[hops] at this;simpa using this
theorem Q54{G:Gh}{w:World}{a:Act}:EnvRel G w [] a:=fun t d h=>by simp at h
theorem Qko{G:Gh}{w:World}{a:Act}{t:Nat}{d:D}{env:List (Nat×D)}(h:t<a.tmps.size∧DRel G w d (a.tmps.getD t undef))(k:EnvRel G w env a):EnvRel G w ((t,d)::env) a:=fun t' d' hl=>by
 rw[List.lookup_cons] at hl;split at hl
 ·rename_i he;cases hl;have:t' = t:=by simpa using he
  subst this;exact h
 ·exact k t' d' hl
end
def sndC:Code→Code
 | .seq _ y=>y
 | c=>c
def fstC:Code→Code
 | .seq x _=>x
 | c=>c
def Qagt:Code→Array Oper
 | .region _ ops _=>ops
 | _ => #[]
def Qaew:Array Oper:=Qagt (fstC (sndC (sndC (Tryz.f66.body.getD .skip))))
def infY:Code:=sndC (sndC (sndC (Tryz.f66.body.getD .skip)))
def Qath:Array Oper:=Qagt (fstC (fstC infY))
def Qati:Array Oper:=Qagt (sndC infY)
theorem Qaex(u0 u1:Value)(w:World){R:Ending→FrameMode→World→Prop}(h:R (.returned (.tuple #[])) .returning w) :
  CallsDIn Fence.wide 0 Tryz.prog 66 #[u0,u1] .returning w R:=by
 refine callsDIn_of_wpSIn Tryz.func66 rfl trivial fun c₀ cs hu=>?_
 apply wpSIn_seq;apply wpSIn_region;simp[wpOpsSIn,go_sem,recoverD,hu,Tryz.ntmps66,Exit.thenS];apply wpSIn_seq;apply wpSIn_seq;apply wpSIn_region;simp[wpOpsSIn,go_sem,Exit.thenS];refine wpSIn_cond (t:=true) (by simp[Act.eval,Array.replicate]) ?_;simp only[if_true];refine wpSIn_of_wpIn rfl (wpIn_ret ?_);cases c₀;simp_all [bodyPostS,results,Tryz.results66,Exit.thenS]
theorem Qanj(z:List UInt8)(w:World):(Instr.typeAssert (.iface 88 (.agg #[Qd6 z])) 20 88 true).run Tryz.prog w = .ok (.tuple #[.agg #[Qd6 z],.bool true]) w:=by
 kernel_rfl
theorem Qaib(u0 u1:Value)(z:List UInt8)(w:World){R:Ending→FrameMode→World→Prop}
  (h5:∀ (Q:Exit→Act→World→Prop) (a:Act),a.tmps.size=18→a.tmps[0]? = some u0→a.tmps[1]? = some u1→a.tmps[11]? = some (.agg #[Qd6 z])→a.tmps[12]? = some (.bool true)→a.defers=[] →
   (∀ a2 w2,infY.wpIn Fence.wide 0 Tryz.prog (fun e a3 w3=>e = .normal∧a3.defers=[]∧R (.returned (.tuple #[])) (.panicking [{ v :=.iface 88 (.agg #[Qd6 z]),recovered:=true }]) w3) a2 w2→Q .normal a2 w2) →
   wpOpsIn Fence.wide 0 Tryz.prog Qaew Q [5,6,7] a w) :
  CallsDIn Fence.wide 0 Tryz.prog 66 #[u0,u1] (.panicking (Qml z)) w R:=by
 refine callsDIn_of_wpSIn Tryz.func66 rfl trivial fun c₀ cs hu=>?_
 apply wpSIn_seq;apply wpSIn_region;simp[wpOpsSIn,go_sem,recoverD,hu,Qml,Tryz.ntmps66,Exit.thenS];apply wpSIn_seq;apply wpSIn_seq;apply wpSIn_region;simp[wpOpsSIn,go_sem,Exit.thenS];refine wpSIn_cond (t:=false) (by simp[Act.eval,Array.replicate]) ?_;simp only[Bool.false_eq_true,if_false];refine wpSIn_of_wpIn rfl (wpIn_skip ?_);simp only[Exit.thenS];refine wpSIn_of_wpIn rfl (wpIn_seq (wpIn_region ?_));obtain⟨L,hL⟩:∃ L,L=[5,6,7]:=⟨_,rfl⟩;show wpOpsIn Fence.wide 0 Tryz.prog Qaew _ (0::1::2::3::4::[5,6,7]) _ _;rw[← hL];simp[Qaew,Qagt,fstC,sndC,Tryz.f66,wpOpsIn,go_sem,Qanj];subst hL;refine h5 _ _ ?_ ?_ ?_ ?_ ?_ rfl ?_
 ·simp
 ·simp
 ·simp
 ·simp
 ·simp
 intro a2 w2 h;refine wpIn_mono h ?_;rintro e a3 w3 ⟨rfl,hd,hr⟩;refine⟨hd,.panicking [{ v :=.iface 88 (.agg #[Qd6 z]),recovered:=true }],rfl,.tuple #[],?_,hr⟩;exact results_none rfl _ _ _
theorem Qaey(a:Act)(w:World)(hs:a.tmps.size=42){Post:Exit→Act→World→Prop} (h:(sndC (Qaev 7 (Tryz.f35.body.getD .skip))).wpIn Fence.wide 0 Tryz.prog Post
  { tmps:=a.tmps.setIfInBounds 30 (.func (.func 66) #[] #[a.tmps.getD 6 undef,a.tmps.getD 7 undef]),defers:={ target :=.fn (.func 66) #[a.tmps.getD 6 undef,a.tmps.getD 7 undef],args := #[] }::a.defers } w) :
  (Qaev 7 (Tryz.f35.body.getD .skip)).wpIn Fence.wide 0 Tryz.prog Post a w:=by
 refine wpIn_seq (wpIn_region ?_);obtain⟨X,hX⟩:∃ X,X=sndC (Qaev 7 (Tryz.f35.body.getD .skip)):=⟨_,rfl⟩;rw[← hX] at h;simp[hs] at h;rw[hX] at h;simp[wpOpsIn,go_sem,hs];exact h
def infQ (r:D) (e:Exit) (τ : St):Prop:=match e with
 | .ret=>Qhc tb τ Tryz.f35.results.toList fun ds=>match retD ds with | some d=>LeD d r | none=>False
 | .panic ch=>∃ z,ch=Qml z ∧ τ.env.lookup 6=some (.ptr 0 0) ∧ τ.env.lookup 7=some (.ptr 1 0) ∧ τ.s.heap.length=4 ∧ τ.s.live.length=0 ∧
  bOps true Tryz.prog tb 18 Qaew.toList [5,6,7] ⟨[(0,.ptr 0 0),(1,.ptr 1 0),(11,.p (.agg [sV z])),(12,.p (bV true))],τ.s⟩ fun υ => bwp (4,0) Tryz.prog tb 18 [] (.region 3 Qath false) (fun e χ => e = .normal∧ev χ.env (.tmp 14)=some (.p (bV false)) ∧
   bwp (4,0) Tryz.prog tb 18 [] (.region 5 Qati false) (fun e ψ => e = .normal∧Qhc tb ⟨[(6,.ptr 0 0),(7,.ptr 1 0)],ψ.s⟩ Tryz.f35.results.toList fun ds=>match retD ds with | some d=>LeD d r | none=>False) χ) υ
 | _=>False
def infK (lv:List (Nat×List Nat)) (r:D) (σ : St):Prop :=
 σ.env.lookup 6=some (.ptr 0 0) ∧ σ.env.lookup 7=some (.ptr 1 0) ∧ σ.env.lookup 30=none ∧ σ.s.heap.length=2 ∧ σ.s.live.length=0 ∧
  bwp (2,0) Tryz.prog tb 42 lv (sndC (Qaev 7 (Tryz.f35.body.getD .skip))) (infQ r) σ
theorem Qall{args:List V}(hargs:args.length=3){r:D}{lv:List (Nat×List Nat)}
  (h:bwpH (0,0) Tryz.prog tb 42 lv 7 (Tryz.f35.body.getD .skip) (retQ tb Tryz.f35.results.toList fun d=>LeD d r) (infK lv r) ⟨Q0p args 0,⟨[],[]⟩⟩):PCall Tryz.prog 35 args r:=by
 refine PCall.ofW Tryz.func35 rfl (by kernel_rfl) (by rw[hargs]; exact Nat.le_of_ble_eq_true rfl) fun C w a R hRR hR hd=>?_
 refine Qaia (rd:=none) (lo:=⟨w.heap.size,[]⟩) (w0:=w) mixed tbOk (Q:=retQ tb Tryz.f35.results.toList fun d=>LeD d r) (K:=infK lv r) (fun e G' σ' a' w' hE hR' hF' hq=>?_) _ _ _ a w h (.refl _ _ w) hR (.none hd) ?_
 ·have key:∀ (hq:Qhc tb σ' Tryz.f35.results.toList fun ds=>match retD ds with | some d=>LeD d r | none=>False),LeavesInM Fence.wide 0 Tryz.prog Tryz.f35 a'.tmps R a'.defers .returning w' := fun hq =>
   Qw5 (u :=.returning) (by simp) (fun w3 hE3 hR3=>by
    obtain⟨v,h1,h2,h3⟩:=Qags tbOk hE3 hR3 hq;exact⟨v,h1,hRR v w3 h2 h3⟩) hF' (Nat.le_refl _) hE hR'
  cases e with
  | normal=>exact key hq
  | ret=>exact key hq
  | _=>exact hq.elim
 ·rintro G1 σ1 a1 w1 hE1 hR1 hF1 ⟨k6,k7,k30,hl,hv,hb⟩;have v6:=hR1.env 6 _ k6;have v7:=hR1.env 7 _ k7;refine Qaey a1 w1 hR1.size ?_;obtain⟨Ds0,m1,m2,m3⟩:=hF1.marks;rw[List.append_nil] at m1;rw[m1];generalize hu6:a1.tmps.getD 6 undef=u6 at v6 ⊢;generalize hu7:a1.tmps.getD 7 undef=u7 at v7 ⊢;have hn1:G1.name.length=2:=hR1.inv.names.trans hl;have ht1:G1.tok.length=0:=by have:=congrArg List.length hR1.inv.live; simp at this; omega
  obtain⟨d,hdd⟩:∃ d:Deferred,d={ target :=.fn (.func 66) #[u6,u7],args := #[] }:=⟨_,rfl⟩;rw[← hdd];generalize hfv:(Value.func (Fn.func 66) #[] #[u6,u7])=fv;have ek:∀ t,t≠30→(a1.tmps.setIfInBounds 30 fv).getD t undef=a1.tmps.getD t undef:=fun t ht=>by
   simp only[Array.getD_eq_getD_getElem?,Array.getElem?_setIfInBounds,if_neg (fun e:30=t=>ht e.symm)]
  have es:∀ {t:Nat},t<a1.tmps.size→t<(a1.tmps.setIfInBounds 30 fv).size:=fun h=>by simpa using h
  have hRr:Rel Tryz.f35.ntmps G1 σ1 { tmps:=a1.tmps.setIfInBounds 30 fv,defers:=d::Ds0.map Qnm } w1 :=
   ⟨hR1.inv,fun t x hx=>by
    have ht:t≠30:=fun e=>by rw[e,k30] at hx; cases hx
    have:=hR1.env t x hx;exact⟨es this.1,by rw[ek t ht]; exact this.2⟩,by simpa using hR1.size⟩
  have hFr:Fr none ⟨w1.heap.size,d::Ds0.map Qnm⟩ G1 { tmps:=a1.tmps.setIfInBounds 30 fv,defers:=d::Ds0.map Qnm } w1:=⟨⟨[],rfl,List.nodup_nil,fun _ h=>(nomatch h)⟩,fun _ h=>(nomatch h),Nat.le_refl _⟩;refine wpIn_mono ((Qao mixed tbOk _ _ _ hb).out none ⟨w1.heap.size,d::Ds0.map Qnm⟩ G1 _ w1 hRr hFr) ?_;rintro e a2 w2 ⟨G2,σ2,hE2,hR2,hF2,hq2⟩;have fin:∀ (G4:Gh) (τ : St) (w4:World),Ex (2,0) G1 w1 G4 w4→Rel Tryz.f35.ntmps G4 τ a2 w4→(Qhc tb τ Tryz.f35.results.toList fun ds=>match retD ds with | some d=>LeD d r | none=>False) →
    LeavesInM Fence.wide 0 Tryz.prog Tryz.f35 a2.tmps R (Ds0.map Qnm) .returning w4:=fun G4 τ w4 hE4 hR4 hq=>by
   refine Qw5 (a:={ a2 with defers:=Ds0.map Qnm }) (lo:=w.heap.size) (db:=[]) (σ := τ) (u :=.returning) (B:=(0,0)) (w0:=w) (by simp) (fun w5 hE5 hR5=>?_) ⟨⟨Ds0,(List.append_nil _).symm,m2,fun b hb=>⟨(m3 b hb).1,hE4.ext.stays (m3 b hb).2.1 (m3 b hb).2.2.1 (m3 b hb).2.2.2⟩⟩,fun _ h=>(nomatch h),Nat.le_trans hF1.size hE4.ext.size⟩ (Nat.le_refl _) (hE1.trans (hE4.le (Nat.zero_le _) (Nat.zero_le _))) ⟨hR4.inv,hR4.env,hR4.size⟩;obtain⟨v,h1,h2,h3⟩:=Qags tbOk hE5 hR5 hq;exact⟨v,h1,hRR v w5 h2 h3⟩
  have inv0:∀ w3:World,(invoke d.target d.args).run Tryz.prog w3 = .ok (.enter 66 #[u6,u7]) w3:=fun w3=>by subst hdd; simp[go_sem]
  cases e with
  | ret =>
   refine Qw5 (u :=.returning) (B:=(2,0)) (by simp) (fun w3 hE3 hR3=>?_) hF2 (Nat.le_refl _) hE2 hR2;refine⟨by simp,.inr ⟨fun h=>(nomatch h),_,_,66,#[u6,u7],by rw[hdd],inv0 w3,fun _ _=>trivial,?_⟩⟩;exact Qaex u6 u7 w3 (fin G2 σ2 w3 hE3 hR3 hq2)
  | panic ch =>
   obtain⟨z,rfl,l6,l7,hl2,hv2,hc⟩:=hq2;refine Qw5 (u :=.panicking (Qml z)) (B:=(2,0)) (by simp) (fun w3 hE3 hR3=>?_) hF2 (Nat.le_refl _) hE2 hR2;refine⟨by simp,.inr ⟨fun h=>(nomatch h),_,_,66,#[u6,u7],by rw[hdd],inv0 w3,fun _ _=>trivial,?_⟩⟩;refine Qaib u6 u7 z w3 fun Q a hsz t0 t1 t11 t12 hd' hQ=>?_
   have hI3:=hR3.inv;have hst:Stp G1 w1 G2 w3:=hE3.stp (by omega) (by omega);have eg:∀ {t:Nat} {u:Value},a.tmps[t]? = some u→a.tmps.getD t undef=u:=fun h=>by simp only[Array.getD_eq_getD_getElem?,h,Option.getD_some]
   have hn2:G2.name.length=4:=hI3.names.trans hl2;have ht2:G2.tok.length=0:=by have:=congrArg List.length hI3.live; simp at this; omega
   have hRc:Rel 18 G2 ⟨[(0,.ptr 0 0),(1,.ptr 1 0),(11,.p (.agg [sV z])),(12,.p (bV true))],σ2.s⟩ a w3 :=
    ⟨hI3,Qko ⟨by omega,by rw[eg t0]; exact v6.2.mono hst⟩ (Qko ⟨by omega,by rw[eg t1]; exact v7.2.mono hst⟩ (Qko ⟨by omega,by
     rw[eg t11];refine .p _ _ (.agg [sV z] #[Qd6 z] rfl (fun j c u hc hu=>?_) fun j c u hc hu=>?_)
     ·match j,hu with
      | 0,hu=>cases hu; rfl
     ·match j,hc,hu with
      | 0,hc,hu=>cases hc; cases hu; exact .v _ rfl⟩ (Qko ⟨by omega,by rw[eg t12]; exact .p _ _ (.v _ rfl)⟩ Q54))),hsz⟩
   have hops:Qaew.toList.toArray=Qaew:=by simp
   have:=Qtg tbOk (rd:=none) (ops:=Qaew.toList) (Q:=Q) (B:=(4,0)) (G0:=G2) (w0:=w3) (ds:=a.defers) (fun a' w' G' σ' hE' hR' hd2 hK=>hQ a' w' (wpIn_seq (wpIn_seq (wpIn_mono (Q53 (rd:=none) tbOk hK hR') ?_)))) [5,6,7] _ a w3 G2 (.refl (4,0) G2 w3) hRc rfl hc
   ·rw[hops] at this;exact this
   ·rintro e a4 w4 ⟨G4,σ4,hE4,hR4,hd4,rfl,h14,hq4⟩;have e14:a4.eval (.tmp 14) = .bool false:=by
     have:=Quj hR4.env _ _ h14;generalize a4.eval (.tmp 14)=q at this;cases this with
     | p _ _ k=>cases k; rfl
    refine wpIn_cond (t:=false) e14 ?_;simp only[Bool.false_eq_true,if_false];refine wpIn_skip ?_;simp only[Exit.then];refine wpIn_mono (Q53 (rd:=none) tbOk hq4 hR4) ?_;rintro e a5 w5 ⟨G5,σ5,hE5,hR5,hd5,rfl,hq5⟩;refine⟨rfl,hd5.trans (hd4.trans (hd2.trans hd')),?_⟩;have hE6:Ex (4,0) G2 w3 G5 w5:=(hE'.trans hE4).trans hE5;have hst5:Stp G2 w3 G5 w5:=hE6.stp (by omega) (by omega);have x6:=hR3.env 6 _ l6;have x7:=hR3.env 7 _ l7;exact fin G5 ⟨[(6,.ptr 0 0),(7,.ptr 1 0)],σ5.s⟩ w5 (hE3.trans (hE6.le (by decide) (by decide))) ⟨hR5.inv,Qko ⟨x6.1,x6.2.mono hst5⟩ (Qko ⟨x7.1,x7.2.mono hst5⟩ Q54),hR3.size⟩ hq5
  | _=>exact hq2.elim
def kn:List (List UInt8):=[[],[116,101,120,116],[110,117,109,98,101,114],[116,114,117,116,104],[112,97,105,114],[97,108,101,114,116],[103,114,111,117,112],[116,101,120,116,115],[112,97,105,114,115],[97,108,101,114,116,115]]
def Qzi(k:Int):List UInt8:=if k<0∨10≤k then [] else kn.getD k.toNat []
theorem Qap3(n:Nat)(hn:n<10):([Value.string { data := #[] },Value.string { data := #[116,101,120,116] },Value.string { data := #[110,117,109,98,101,114] },Value.string { data := #[116,114,117,116,104] },Value.string { data := #[112,97,105,114] },Value.string { data := #[97,108,101,114,116] },Value.string { data := #[103,114,111,117,112] },Value.string { data := #[116,101,120,116,115] },Value.string { data := #[112,97,105,114,115] },Value.string { data := #[97,108,101,114,116,115] }]:List Value)[n]'hn = .string ⟨(Qzi n).toArray⟩:=by
 match n,hn with
 | 0,_=>rfl
 | 1,_=>rfl
 | 2,_=>rfl
 | 3,_=>rfl
 | 4,_=>rfl
 | 5,_=>rfl
 | 6,_=>rfl
 | 7,_=>rfl
 | 8,_=>rfl
 | 9,_=>rfl
 | n+10,h=>omega
set_option maxHeartbeats 2000000 in
theorem Qank(k:Int)(w:World) :
  Calls Tryz.prog 118 #[.int .i64 k] w fun e w' => e = .returned (.string ⟨(Qzi k).toArray⟩)∧Below w.heap.size w w' := by
 by_cases h:k<0∨10≤k
 ·have hr:Qzi k=[]:=by rw[Qzi,if_pos h]
  rw[hr]; clear hr
  go_enter Tryz.func118,Tryz.ntmps118
  go_wp2
  all_goals
   go_ret
   exact⟨rfl,(Below.refl _ _).alloc (Nat.le_refl _) _⟩
 ·obtain⟨n,rfl⟩:=Int.eq_ofNat_of_zero_le (by omega:0≤k);have hn:n<10:=by omega
  have hx:=Qap3 n hn;clear h
  go_enter Tryz.func118,Tryz.ntmps118
  go_wp2
  all_goals
   go_ret
   exact⟨rfl,(Below.refl _ _).alloc (Nat.le_refl _) _⟩
theorem Qanl(k:Int):PCall Tryz.prog 118 [.v (.int .i64 k)] (.p (sV (Qzi k))):=by
 refine PCall.ofCallsG (by kernel_rfl) (fun _ _ =>.p _ _ (.v _ rfl)) fun w us _ hs h=>?_
 obtain⟨x,rfl⟩:=us1 hs;obtain⟨_,h0⟩:=h 0 _ x rfl rfl;rw[Qabb h0];exact Qank k w
end Go.Proofs.YtfgegilhjlnohaaGreat
end
noncomputable section
set_option linter.unusedVariables false
set_option linter.unusedSimpArgs false
set_option maxRecDepth 100000
set_option maxHeartbeats 4000000
namespace Go.Proofs.YtfgegilhjlnohaaGreat
open Go.RowKit
structure Qan where
 name_:(List UInt8)
 it_:Int
def Qa4 (x:Qan):List V:=[sV x.name_,iV x.it_]
structure Qa7 where
 of_:Int
 name_:(List UInt8)
 is_:Int
def Qk9 (x:Qa7):List V:=[iV x.of_,sV x.name_,iV x.is_]
structure Qbr where
 Name:(List UInt8)
 In:(List Int)
 Gives:Int
def Qci (y:(List UInt8)×Int):D :=.tup [.p (sV y.1),.p (iV y.2)]
def Q4m:List (Nat×List Nat):=[(0,[0,1,2,6,7]),(1,[0,1,2,6,7,8,9]),(2,[0,1,2,6,7,8,9,19]),(3,[6,7]),(4,[0,1,2,6,7,10,11]),(5,[0,1,2,6,7,10,29]),(6,[6,7]),(7,[0,1,2,6,7,10]),(8,[1,6,7,10,12]),(9,[6,7]),(10,[6,7]),(9000008,[2,1,0,0]),(9600009,[5]),(9700009,[6,7])]
def Qbq (y:Int×Bool):D :=.tup [.p (iV y.1),.p (bV y.2)]
def Qqf:List (Nat×List Nat):=[(0,[1,2,3]),(1,[1,2,3,16]),(2,[1,2,3,16,17]),(3,[6,7]),(4,[1,2,3,16,19]),(5,[6,7]),(6,[1,2,3,16,21]),(7,[6,7]),(8,[1,2,3,16,23]),(9,[1,3,8]),(10,[1,3,8,29]),(11,[1,3,8]),(12,[1,3,8,9]),(13,[1,3,8,9,40]),(14,[6,7]),(15,[1,2,3,16,47]),(16,[52]),(17,[6,7]),(18,[1,2,3,16,53]),(19,[1,2,3,53]),(20,[1,2,3,10]),(21,[1,2,3,10,57,58,59]),(22,[1,2,3,10,57,58,59,60]),(23,[1,2,3,10,12,57,58,59]),(24,[1,2,3,10,13,14,57,58,59]),(25,[1,2,3,10,13,57,58,59,71]),(26,[6,7]),(27,[1,2,3,10,57,58,59]),(28,[1,2,3,10,57,58,59]),(29,[3,10,79]),(30,[6,7]),(31,[3,10,88]),(32,[6,7]),(33,[6,7]),(1000010,[1,3,8]),(1000022,[1,2,3,10,57,58,59]),(2018005,[])]
def Qlv (p0:Qab) (p1:(List Qak)) (v8:Int):St:=⟨[(1,.p (.sl false (p1.map Qbg))),(3,.ptr 0 0),(8,.p (iV v8))],⟨[[.p (iV p0.Kind),.p (sV p0.Name),.p (sV p0.Text),.p (iV p0.N),.p (.sl false (p0.L.map Qaa)),.p (.sl false (p0.Then.map Qaa)),.p (.sl false (p0.Else.map Qaa))]],[]⟩⟩
def Qq4 (p0:Qab) (p1:(List Qak)) (y2:Unit):St:=⟨[],⟨[[.p (iV p0.Kind),.p (sV p0.Name),.p (sV p0.Text),.p (iV p0.N),.p (.sl false (p0.L.map Qaa)),.p (.sl false (p0.Then.map Qaa)),.p (.sl false (p0.Else.map Qaa))]],[]⟩⟩
def Qq5 (p0:Qab) (p1:(List Qak)) (y3:Int×Bool):St:=⟨[(6,.p (iV y3.1)),(7,.p (bV y3.2))],⟨[[.p (iV p0.Kind),.p (sV p0.Name),.p (sV p0.Text),.p (iV p0.N),.p (.sl false (p0.L.map Qaa)),.p (.sl false (p0.Then.map Qaa)),.p (.sl false (p0.Else.map Qaa))]],[]⟩⟩
def Q2p:Code:=((Qav (Tryz.f87.body.getD .skip)).getD 0 .skip)
def Q2q (p0:Qab) (p1:(List Qak)) (p2:(List (List UInt8))) (o7:Bool):St:=⟨[(1,.p (.sl false (p1.map Qbg))),(2,.p (.sl false (p2.map cStr))),(3,.ptr 0 0),(53,.p (bV o7))],⟨[[.p (iV p0.Kind),.p (sV p0.Name),.p (sV p0.Text),.p (iV p0.N),.p (.sl false (p0.L.map Qaa)),.p (.sl false (p0.Then.map Qaa)),.p (.sl false (p0.Else.map Qaa))]],[]⟩⟩
def Qlw (p0:Qab) (p1:(List Qak)) (p2:(List (List UInt8))) (v10:(List Int)) (v59:Int):St:=⟨[(1,.p (.sl false (p1.map Qbg))),(2,.p (.sl false (p2.map cStr))),(3,.ptr 0 0),(10,.own 0 44 1 (v10.map cInt)),(57,.p (.sl false (p0.L.map Qaa))),(58,.p (iV (p0.L.length:Int))),(59,.p (iV v59))],⟨[[.p (iV p0.Kind),.p (sV p0.Name),.p (sV p0.Text),.p (iV p0.N),.p (.sl false (p0.L.map Qaa)),.p (.sl false (p0.Then.map Qaa)),.p (.sl false (p0.Else.map Qaa))]],[(v10.map cInt).length]⟩⟩
def Qq6 (p0:Qab) (p1:(List Qak)) (p2:(List (List UInt8))) (y9:(List Int)):St:=⟨[(3,.ptr 0 0),(10,.own 0 44 1 (y9.map cInt))],⟨[[.p (iV p0.Kind),.p (sV p0.Name),.p (sV p0.Text),.p (iV p0.N),.p (.sl false (p0.L.map Qaa)),.p (.sl false (p0.Then.map Qaa)),.p (.sl false (p0.Else.map Qaa))]],[(y9.map cInt).length]⟩⟩
def Qq7 (p0:Qab) (p1:(List Qak)) (p2:(List (List UInt8))) (y10:Unit):St:=⟨[(6,.p (iV 0)),(7,.p (bV false))],⟨[[.p (iV p0.Kind),.p (sV p0.Name),.p (sV p0.Text),.p (iV p0.N),.p (.sl false (p0.L.map Qaa)),.p (.sl false (p0.Then.map Qaa)),.p (.sl false (p0.Else.map Qaa))]],[]⟩⟩
def Q2r:Code:=((Qav (Tryz.f87.body.getD .skip)).getD 1 .skip)
def Qgs (_:(List (Qan×Int))):D :=.tup []
def Qjx:List (Nat×List Nat):=[(0,[0,1,3,15,16,17]),(1,[0,1,3,15,16,17,18]),(2,[0,1,3,9,15,16,17]),(3,[0,1,3,9,15,16,17,23]),(4,[0,1,3,9,10,11,15,16,17]),(5,[0,1,3,9,10,11,12,15,16,17]),(6,[0,1,3,9,10,11,12,15,16,17,40]),(7,[0,1,3,9,10,11,12,15,16,17,40,41]),(8,[0,1,3,9,10,11,12,15,16,17]),(9,[0,1,3,9,10,11,12,15,16,17,40,48]),(10,[0,1,3,9,10,11,12,15,16,17]),(11,[0,1,3,9,10,11,12,15,16,17,40,55]),(12,[0,1,3,9,10,11,12,13,14,15,16,17]),(13,[0,1,3,9,10,11,12,13,15,16,17]),(14,[0,1,3,9,10,11,12,15,16,17]),(15,[0,1,3,9,10,11,12,15,16,17,73]),(16,[0,1,3,9,10,11,12,15,16,17]),(17,[0,1,3,9,10,12,15,16,17,83]),(18,[0,1,3,9,10,12,15,16,17]),(19,[0,1,3,9,10,12,15,16,17,89]),(20,[0,1,3,15,16,17]),(21,[0,1,3,9,15,16,17]),(22,[0,1,3,15,16,17]),(23,[0,1,3,15,16,17]),(1000001,[0,1,3,15,16,17]),(2006024,[]),(3000013,[]),(9000014,[6,0,0,0]),(9000016,[6,0,0,0]),(9500021,[]),(9600018,[2]),(9600020,[5]),(9600021,[5]),(9600022,[5])]
def Qph (p1:(List UInt8)) (p2:(List Qab)) (p3:(List Qak)) (h0_0:(List Qae)) (h0_1:(List (List UInt8))) (v17:Int) (h1_0_:(List (Qan×Int))) (x4:Qab) (x6:Int×Bool) (o8:Bool×(List Qak)):St:=⟨[(0,.ptr 0 0),(1,.p (sV p1)),(3,.p (.sl false (p3.map Qbg))),(9,.ptr 2 0),(10,.p (iV x6.1)),(11,.p (bV o8.1)),(12,.x 0 1 (.sl 46 3 (o8.2.map Qbg))),(15,.p (.sl false (p2.map Qaa))),(16,.p (iV (p2.length:Int))),(17,.p (iV v17))],⟨[[.p (.sl false (h0_0.map Qaf)),.p (.sl false (h0_1.map cStr)),.mh 1],[mpD (fun x =>.agg (Qa4 x)) iV h1_0_],[.p (iV x4.Kind),.p (sV x4.Name),.p (sV x4.Text),.p (iV x4.N),.p (.sl false (x4.L.map Qaa)),.p (.sl false (x4.Then.map Qaa)),.p (.sl false (x4.Else.map Qaa))]],[1]⟩⟩
def Qpi (p1:(List UInt8)) (p2:(List Qab)) (p3:(List Qak)) (h0_0:(List Qae)) (h0_1:(List (List UInt8))) (v17:Int) (h1_0_:(List (Qan×Int))) (x4:Qab) (x6:Int×Bool) (x7:(List Qak)) (x10:Int×Bool) (o11:Bool):St:=⟨[(0,.ptr 0 0),(1,.p (sV p1)),(3,.p (.sl false (p3.map Qbg))),(9,.ptr 2 0),(10,.p (iV x6.1)),(11,.p (bV o11)),(12,.x 0 1 (.sl 46 3 (x7.map Qbg))),(13,.p (iV x10.1)),(15,.p (.sl false (p2.map Qaa))),(16,.p (iV (p2.length:Int))),(17,.p (iV v17))],⟨[[.p (.sl false (h0_0.map Qaf)),.p (.sl false (h0_1.map cStr)),.mh 1],[mpD (fun x =>.agg (Qa4 x)) iV h1_0_],[.p (iV x4.Kind),.p (sV x4.Name),.p (sV x4.Text),.p (iV x4.N),.p (.sl false (x4.L.map Qaa)),.p (.sl false (x4.Then.map Qaa)),.p (.sl false (x4.Else.map Qaa))]],[1]⟩⟩
def Qce (p1:(List UInt8)) (p2:(List Qab)) (p3:(List Qak)) (h0_0:(List Qae)) (h0_1:(List (List UInt8))) (v17:Int) (h1_0_:(List (Qan×Int))):St:=⟨[(0,.ptr 0 0),(1,.p (sV p1)),(3,.p (.sl false (p3.map Qbg))),(15,.p (.sl false (p2.map Qaa))),(16,.p (iV (p2.length:Int))),(17,.p (iV v17))],⟨[[.p (.sl false (h0_0.map Qaf)),.p (.sl false (h0_1.map cStr)),.mh 1],[mpD (fun x =>.agg (Qa4 x)) iV h1_0_]],[]⟩⟩
def Qho (p1:(List UInt8)) (p2:(List Qab)) (p3:(List Qak)) (h0_0:(List Qae)) (h0_1:(List (List UInt8))) (y2:(List (Qan×Int))):St:=⟨[],⟨[[.p (.sl false (h0_0.map Qaf)),.p (.sl false (h0_1.map cStr)),.mh 1],[mpD (fun x =>.agg (Qa4 x)) iV y2]],[]⟩⟩
def Qhp (p1:(List UInt8)) (p2:(List Qab)) (p3:(List Qak)) (h0_0:(List Qae)) (h0_1:(List (List UInt8))) (y3:(List UInt8)×(List (Qan×Int))):St:=⟨[],⟨[[.p (.sl false (h0_0.map Qaf)),.p (.sl false (h0_1.map cStr)),.mh 1],[mpD (fun x =>.agg (Qa4 x)) iV y3.2]],[]⟩⟩
def Qpj:Code:=((Qav (Tryz.f67.body.getD .skip)).getD 0 .skip)
def Qic (_:(List (Qan×Int))):D :=.tup []
def Quf:List (Nat×List Nat):=[(0,[0,3]),(1,[0,3,12]),(2,[0,3,4]),(3,[0,3]),(4,[]),(5000001,[2005]),(9000004,[5,0,0,0]),(9600003,[9]),(9800004,[5]),(7000004,[36,37])]
def Qa9 (y:Int×Bool):D :=.tup [.p (iV y.1),.p (bV y.2)]
def Qacu:List (Nat×List Nat):=[(0,[0,3]),(1,[0,3,6]),(2,[3,6,10]),(3,[3,6,10,11]),(4,[3,6,10,11]),(5,[3,6,10,11]),(6,[3,6,10,15]),(7,[3,6,10,17]),(8,[3,6,10,17]),(9,[3,6,10,20]),(10,[3,6,10,20]),(11,[3,6,10,23]),(12,[3,6,10,25]),(13,[3,6,10,27]),(14,[3,6,10,29]),(15,[3,6,10,31]),(16,[3,6,10,33]),(17,[3,6,10,35]),(18,[3,6,10,37]),(19,[6,10,39]),(20,[6,10,41]),(21,[6,10,43]),(22,[6,10,45]),(23,[6,10,45]),(24,[6,48]),(25,[4,5]),(26,[4,5]),(27,[4,5]),(28,[4,5]),(29,[4,5]),(30,[4,5]),(31,[4,5]),(32,[4,5]),(33,[4,5]),(34,[3,97]),(35,[8]),(36,[105]),(37,[4,5]),(38,[6,114]),(39,[4,5]),(40,[4,5]),(41,[137]),(42,[4,5]),(43,[4,5]),(44,[4,5]),(45,[4,5]),(46,[4,5]),(47,[4,5]),(2003009,[]),(2007005,[]),(2009005,[]),(2022005,[]),(3000038,[]),(3000041,[])]
def Q4n (p0:(List UInt8)) (p1:(List Int)) (o1:Bool):St:=⟨[(3,.ptr 0 0),(6,.fn (.func 147) [] [.ptr 0 0]),(10,.p (sV p0)),(11,.p (bV o1))],⟨[[.p (.sl false (p1.map cInt))]],[]⟩⟩
def Q4o (p0:(List UInt8)) (p1:(List Int)) (o4:Bool):St:=⟨[(3,.ptr 0 0),(6,.fn (.func 147) [] [.ptr 0 0]),(10,.p (sV p0)),(17,.p (bV o4))],⟨[[.p (.sl false (p1.map cInt))]],[]⟩⟩
def Q4p (p0:(List UInt8)) (p1:(List Int)) (o6:Bool):St:=⟨[(3,.ptr 0 0),(6,.fn (.func 147) [] [.ptr 0 0]),(10,.p (sV p0)),(20,.p (bV o6))],⟨[[.p (.sl false (p1.map cInt))]],[]⟩⟩
def Q4q (p1:(List Int)) (o15:Bool):St:=⟨[(6,.fn (.func 147) [] [.ptr 0 0]),(114,.p (bV o15))],⟨[[.p (.sl false (p1.map cInt))]],[]⟩⟩
def Q4r (p1:(List Int)) (o18:Bool):St:=⟨[(137,.p (bV o18))],⟨[[.p (.sl false (p1.map cInt))]],[]⟩⟩
def Q4s (p0:(List UInt8)) (p1:(List Int)) (o26:Bool):St:=⟨[(6,.fn (.func 147) [] [.ptr 0 0]),(10,.p (sV p0)),(45,.p (bV o26))],⟨[[.p (.sl false (p1.map cInt))]],[]⟩⟩
def Qqg (y:Int×Bool):D :=.tup [.p (iV y.1),.p (bV y.2)]
def Q4t:List (Nat×List Nat):=[(0,[0,1,2]),(1,[0,10]),(2,[5,6]),(3,[5,6])]
def Qid (y:Int×Bool):D :=.tup [.p (iV y.1),.p (bV y.2)]
def Qacv:List (Nat×List Nat):=[(0,[0]),(1,[4]),(2,[4,5]),(3,[2,3]),(4,[4,7]),(5,[2,3]),(6,[9]),(7,[2,3]),(8,[2,3])]
def Qn3 (y:Int×Bool):D :=.tup [.p (iV y.1),.p (bV y.2)]
def Qw6:List (Nat×List Nat):=[(0,[0,1]),(1,[0,1,8,9,10]),(2,[0,1,8,9,10,11]),(3,[0,1,7,8,9,10]),(4,[0,1,7,8,9,10,23]),(5,[4,5]),(6,[0,1,8,9,10]),(7,[4,5]),(1000002,[0,1,8,9,10]),(3000004,[])]
def Q2s (p0:Int) (p1:(List UInt8)) (x1:(List Qa7)) (v10:Int) (x5:Qa7) (o6:Bool):St:=⟨[(0,.p (iV p0)),(1,.p (sV p1)),(7,.ptr 0 0),(8,.p (.sl false (x1.map Qk9))),(9,.p (iV (x1.length:Int))),(10,.p (iV v10)),(23,.p (bV o6))],⟨[[.p (iV x5.of_),.p (sV x5.name_),.p (iV x5.is_)]],[]⟩⟩
def Qlx (p0:Int) (p1:(List UInt8)) (x1:(List Qa7)) (v10:Int):St:=⟨[(0,.p (iV p0)),(1,.p (sV p1)),(8,.p (.sl false (x1.map Qk9))),(9,.p (iV (x1.length:Int))),(10,.p (iV v10))],⟨[],[]⟩⟩
def Qq8 (p0:Int) (p1:(List UInt8)) (x1:(List Qa7)) (y3:Unit):St:=⟨[],⟨[],[]⟩⟩
def Qq9 (p0:Int) (p1:(List UInt8)) (x1:(List Qa7)) (y4:Int):St:=⟨[(4,.p (iV y4)),(5,.p (bV true))],⟨[],[]⟩⟩
def Q2t:Code:=((Qav (Tryz.f120.body.getD .skip)).getD 0 .skip)
def Q2u (y:(List UInt8)):D :=.p (sV y)
def Qn4 (y:Bool):D :=.p (bV y)
def Q84:List (Nat×List Nat):=[(0,[0]),(1,[2]),(3000001,[])]
def Q2v  (o1:Bool):St:=⟨[(2,.p (bV o1))],⟨[],[]⟩⟩
def Qs6 (y:(List Qa7)):D :=.p (.sl false (y.map Qk9))
def Q85:List (Nat×List Nat):=[(0,[]),(1,[0])]
def Qfk (y:Bool):D :=.p (bV y)
def Qpk:List (Nat×List Nat):=[(0,[0,1,2,3]),(1,[0,1,2,3,9]),(2,[0,1,2,3,21]),(3,[8]),(4,[0,1,2,3]),(5,[0,1,2,3,11]),(6,[11,13]),(7,[8]),(3000007,[])]
def Qnh (x7:(List (List UInt8))) (o9:Bool):St:=⟨[(8,.p (bV o9))],⟨[],[(x7.map cStr).length]⟩⟩
def Qd0 (y:Bool):D :=.p (bV y)
def Qug:List (Nat×List Nat):=[(0,[]),(1,[2]),(2,[2,3,4]),(3,[2,3,4,6]),(4,[0]),(3000004,[])]
def Qrh  (o7:Bool):St:=⟨[(0,.p (bV o7))],⟨[],[]⟩⟩
def Qfl (y:(List (List UInt8))):D :=.p (.sl false (y.map cStr))
def Quh:List (Nat×List Nat):=[(0,[0]),(1,[2])]
def Qev (y:(List Qae)):D :=.p (.sl false (y.map Qaf))
def Qw7:List (Nat×List Nat):=[(0,[0]),(1,[3]),(2,[2])]
def Qbk (y:Bool):D :=.p (bV y)
def Qeb:List (Nat×List Nat):=[(0,[0,1]),(1,[0,1,10]),(2,[4]),(3,[0,1,12,13]),(4,[0,1,12,13,14]),(5,[0,1,5,12,13]),(6,[0,1,12,13,24]),(7,[4]),(8,[0,1,12,13]),(9,[4]),(1000004,[0,1,12,13])]
def Qcf (p0:(List Int)) (p1:(List Int)) (v13:Int):St:=⟨[(0,.p (.sl false (p0.map cInt))),(1,.p (.sl false (p1.map cInt))),(12,.p (iV (p0.length:Int))),(13,.p (iV v13))],⟨[],[]⟩⟩
def Qdo (p0:(List Int)) (p1:(List Int)) (y2:Unit):St:=⟨[],⟨[],[]⟩⟩
def Qdp (p0:(List Int)) (p1:(List Int)) (y3:Unit):St:=⟨[(4,.p (bV false))],⟨[],[]⟩⟩
def Qie:Code:=((Qav (Tryz.f148.body.getD .skip)).getD 0 .skip)
def Qif (p0:(List UInt8)) (p1:(List Int)) (x1:(List Qbr)) (v7:Int) (v8:Bool) (v9:Int):Option (Bool) :=
 ( if v8 then
   some (decide (v9<(p1.length:Int)))
  else
   some false:Option (Bool))>>=fun o9 =>
 if o9 then
  idx x1 v7>>=fun x10 =>
  idx x10.In v9>>=fun x11 =>
  idx p1 v9>>=fun x12 =>
  Qif p0 p1 x1 v7 (x11==x12) (wr (v9+1))
 else
  some v8
 partial_fixpoint
def Qnf (p0:(List UInt8)) (p1:(List Int)) (x1:(List Qbr)) (v7:Int):Option (Unit⊕Int) :=
 if(decide (v7<(x1.length:Int))) then
  ( idx x1 v7>>=fun x6 =>
   if(x6.Name==p0) then
    idx x1 v7>>=fun x7 =>
    some ((x7.In.length:Int)==(p1.length:Int))
   else
    some false:Option (Bool))>>=fun o5 =>
  (Qif p0 p1 x1 v7 o5 0)>>=fun o8 =>
  if o8 then
   idx x1 v7>>=fun x13 =>
   some (.inr x13.Gives)
  else
   Qnf p0 p1 x1 (wr (v7+1))
 else
  some (.inl ())
 partial_fixpoint
def Qagu:Option ((List Qbr)) :=
 some ([(Qbr.mk [117,112,112,101,114] [1] 1),(Qbr.mk [108,111,119,101,114] [1] 1),(Qbr.mk [116,114,105,109] [1] 1),(Qbr.mk [115,105,122,101] [1] 2),(Qbr.mk [102,105,114,115,116] [1,2] 1),(Qbr.mk [108,97,115,116] [1,2] 1),(Qbr.mk [100,101,102,97,117,108,116] [1,1] 1),(Qbr.mk [99,97,116] [1,1] 1),(Qbr.mk [114,101,112,108,97,99,101] [1,1,1] 1),(Qbr.mk [106,111,105,110] [7,1] 1),(Qbr.mk [107,101,121,115] [8] 7),(Qbr.mk [103,101,116] [8,1] 1),(Qbr.mk [104,97,115] [8,1] 3),(Qbr.mk [99,111,117,110,116] [7] 2),(Qbr.mk [99,111,117,110,116] [8] 2),(Qbr.mk [99,111,117,110,116] [9] 2),(Qbr.mk [119,114,105,116,101] [2] 1),(Qbr.mk [119,114,105,116,101] [3] 1),(Qbr.mk [97,100,100] [2,2] 2),(Qbr.mk [115,117,98] [2,2] 2),(Qbr.mk [108,101,115,115] [2,2] 3),(Qbr.mk [115,97,109,101] [1,1] 3),(Qbr.mk [115,97,109,101] [2,2] 3),(Qbr.mk [115,97,109,101] [3,3] 3),(Qbr.mk [98,111,116,104] [3,3] 3),(Qbr.mk [101,105,116,104,101,114] [3,3] 3),(Qbr.mk [110,111,116] [3] 3)])
def Qz8 (p0:(List UInt8)) (p1:(List Int)):Option (Int×Bool) :=
 Qagu>>=fun x1 =>
 (Qnf p0 p1 x1 0)>>=fun o2 =>
 match o2 with
 | .inl y3 =>
  some (0,false)
 | .inr y4 =>
  some (y4,true)
def Qz9 (p0:Int):Option (Int×Bool) :=
 if(p0==7) then
  some (1,true)
 else
  if(p0==8) then
   some (4,true)
  else
   if(p0==9) then
    some (5,true)
   else
    some (0,false)
def Qla (p1:(List UInt8)) (x1:(List (List UInt8))×(List Int)) (v8:Int):Option (Unit⊕Int) :=
 if(decide (v8<(x1.1.length:Int))) then
  idx x1.1 v8>>=fun x5 =>
  if(x5==p1) then
   idx x1.2 v8>>=fun x6 =>
   some (.inr x6)
  else
   Qla p1 x1 (wr (v8+1))
 else
  some (.inl ())
 partial_fixpoint
def Qx4 (p0:Int):Option ((List (List UInt8))×(List Int)) :=
 if(p0==4) then
  some ([[107,101,121],[118,97,108]],[1,1])
 else
  if(p0==5) then
   some ([[102,105,114,105,110,103],[115,116,97,114,116,115],[118,97,108,117,101],[108,97,98,101,108,115],[110,111,116,101,115],[108,105,110,107]],[3,2,2,8,8,1])
  else
   if(p0==6) then
    some ([[114,101,99,101,105,118,101,114],[102,105,114,105,110,103],[99,111,109,109,111,110],[108,105,110,107],[97,108,101,114,116,115]],[1,3,8,1,9])
   else
    some ([],[])
def Qs7 (p0:Int) (p1:(List UInt8)):Option (Int×Bool) :=
 Qx4 p0>>=fun x1 =>
 (Qla p1 x1 0)>>=fun o2 =>
 match o2 with
 | .inl y3 =>
  some (0,false)
 | .inr y4 =>
  some (y4,true)
def Qalm:Option ((List (List UInt8))) :=
 some ([[116,101,120,116],[110,117,109,98,101,114],[116,114,117,116,104],[112,97,105,114],[97,108,101,114,116],[103,114,111,117,112],[116,101,120,116,115],[112,97,105,114,115],[97,108,101,114,116,115]])
def Q86 (p0:Int):Option ((List UInt8)) :=
 ( if(decide (p0<1)) then
   some true
  else
   some (decide (p0>9)):Option (Bool))>>=fun o1 =>
 if o1 then
  some []
 else
  Qalm>>=fun x2 =>
  idx x2 (wr (p0-1))>>=fun x3 =>
  some x3
def Qw8 (p0:Int):Option (Bool) :=
 ( if(p0==1) then
   some true
  else
   if(p0==2) then
    some true
   else
    some (p0==3):Option (Bool))>>=fun o1 =>
 some o1
def Qlb (p0:(List Qak)) (p1:(List UInt8)) (v6:Int):Option (Unit⊕(Int×Bool)) :=
 if(decide (v6 ≥ 0)) then
  idx p0 v6>>=fun x4 =>
  if(x4.Name==p1) then
   idx p0 v6>>=fun x5 =>
   idx p0 v6>>=fun x6 =>
   Q86 x6.K>>=fun x7 =>
   some (.inr (x5.K,(!(x7==[]))))
  else
   Qlb p0 p1 (wr (v6-1))
 else
  some (.inl ())
 partial_fixpoint
def Q2w (p0:(List Qak)) (p1:(List UInt8)):Option (Int×Bool) :=
 (Qlb p0 p1 (wr ((p0.length:Int)-1)))>>=fun o1 =>
 match o1 with
 | .inl y2 =>
  some (0,false)
 | .inr y3 =>
  some (y3.1,y3.2)
mutual
def Qw9 (p0:Qab) (p1:(List Qak)) (p2:(List (List UInt8))):Option (Int×Bool) :=
 if(p0.Kind==1) then
  some (1,true)
 else
  if(p0.Kind==2) then
   some (2,true)
  else
   if(p0.Kind==3) then
    some (3,true)
   else
    if(p0.Kind==4) then
     Q2w p1 p0.Name>>=fun x1 =>
     some (x1.1,x1.2)
    else
     if(p0.Kind==7) then
      Q1z p2 p0.Name>>=fun x2 =>
      if x2 then
       some (1,true)
      else
       some (0,false)
     else
      ( if(p0.Kind==5) then
        some (p0.Kind==5)
       else
        some (p0.Kind==6):Option (Bool))>>=fun o3 =>
      if o3 then
       (Qng p0 p1 p2 [] 0)>>=fun o4 =>
       match o4 with
       | .inl y5 =>
        if(p0.Kind==6) then
         Qz8 p0.Name y5>>=fun x10 =>
         some (x10.1,x10.2)
        else
         if((y5.length:Int)==1) then
          idx y5 0>>=fun x11 =>
          Qs7 x11 p0.Name>>=fun x12 =>
          some (x12.1,x12.2)
         else
          some (0,false)
       | .inr y6 =>
        some (0,false)
      else
       some (0,false)
 partial_fixpoint
def Qng (p0:Qab) (p1:(List Qak)) (p2:(List (List UInt8))) (v8:(List Int)) (v9:Int):Option ((List Int)⊕Unit) :=
 if(decide (v9<(p0.L.length:Int))) then
  idx p0.L v9>>=fun x7 =>
  Qw9 x7 p1 p2>>=fun x8 =>
  if(!x8.2) then
   some (.inr ())
  else
   appL 8 v8 [x8.1]>>=fun x9 =>
   Qng p0 p1 p2 x9 (wr (v9+1))
 else
  some (.inl v8)
 partial_fixpoint
end
mutual
def Qlc (p0:(List Qae)) (p1:(List UInt8)) (p2:(List Qab)) (p3:(List Qak)) (p4:(List (List UInt8))):Option ((List UInt8)×Bool) :=
 (Qe1 p0 p1 p2 p3 p4 0)>>=fun o1 =>
 match o1 with
 | .inl y2 =>
  some ([],true)
 | .inr y3 =>
  some (y3,false)
 partial_fixpoint
def Qe1 (p0:(List Qae)) (p1:(List UInt8)) (p2:(List Qab)) (p3:(List Qak)) (p4:(List (List UInt8))) (v12:Int):Option (Unit⊕(List UInt8)) :=
 if(decide (v12<(p2.length:Int))) then
  idx p2 v12>>=fun x4 =>
  if(x4.Kind==8) then
   Qe1 p0 p1 p2 p3 p4 (wr (v12+1))
  else
   idx x4.L 0>>=fun x5 =>
   Qw9 x5 p3 p4>>=fun x6 =>
   Qz9 x6.1>>=fun x7 =>
   ( if(!x6.2) then
     some true
    else
     if(x4.Kind==9) then
      Qw8 x6.1>>=fun x9 =>
      if(!x9) then
       some true
      else
       if(x4.Kind==10) then
        if(x6.1 != 3) then
         some true
        else
         if(x4.Kind==11) then
          some (!x7.2)
         else
          some false
       else
        if(x4.Kind==11) then
         some (!x7.2)
        else
         some false
     else
      if(x4.Kind==10) then
       if(x6.1 != 3) then
        some true
       else
        if(x4.Kind==11) then
         some (!x7.2)
        else
         some false
      else
       if(x4.Kind==11) then
        some (!x7.2)
       else
        some false:Option (Bool))>>=fun o8 =>
   if o8 then
    some (.inr p1)
   else
    appL 32 [] p3>>=fun x10 =>
    ( if(x4.Kind==11) then
      appL 32 x10 [(Qak.mk x4.Name x7.1 false)]>>=fun x12 =>
      some x12
     else
      some x10:Option ((List Qak)))>>=fun o11 =>
    ( if(x4.Kind==12) then
      appL 32 o11 [(Qak.mk x4.Name x6.1 false)]>>=fun x14 =>
      some x14
     else
      some o11:Option ((List Qak)))>>=fun o13 =>
    Qlc p0 p1 x4.Then o13 p4>>=fun x15 =>
    if(!x15.2) then
     some (.inr x15.1)
    else
     Qlc p0 p1 x4.Else p3 p4>>=fun x16 =>
     if(!x16.2) then
      some (.inr x16.1)
     else
      if(x4.Kind==13) then
       Qhx p0 x4.Name>>=fun x17 =>
       Qlc p0 x4.Name x17.1 ([(Qak.mk [103,114,111,117,112] 6 false),(Qak.mk [105,116] x6.1 false)]) p4>>=fun x18 =>
       if(!x18.2) then
        some (.inr x18.1)
       else
        Qe1 p0 p1 p2 p3 p4 (wr (v12+1))
      else
       Qe1 p0 p1 p2 p3 p4 (wr (v12+1))
 else
  some (.inl ())
 partial_fixpoint
end
def Q2x (p0:(List Qae)) (p1:(List UInt8)) (p2:(List (List UInt8))):Option ((List UInt8)×Int) :=
 Qo7 p0>>=fun x1 =>
 if(x1.2 != 0) then
  some (x1.1,x1.2)
 else
  Qhx p0 p1>>=fun x2 =>
  if(!x2.2) then
   some ([],4)
  else
   Qlc p0 p1 x2.1 ([(Qak.mk [103,114,111,117,112] 6 false)]) p2>>=fun x3 =>
   if(!x3.2) then
    some (x3.1,201)
   else
    some ([],0)
def Qxa (p0:Int):Option ((List UInt8)) :=
 some (Qzi p0)
theorem Qacw:∀ (p0:Int) (o:(List UInt8)),Qxa p0=some o→PCall Tryz.prog 118 [iV p0] (Q2u o):=by
 intro p0 o h;unfold Qxa at h;cases h;exact Qanl _
def Qfm (p0:Qab) (p1:(List Qak)) (v8:Int):Option (Unit⊕(Int×Bool)) :=
 if(decide (v8 ≥ 0)) then
  idx p1 v8>>=fun x4 =>
  if(x4.Name==p0.Name) then
   Qxa x4.K>>=fun x5 =>
   some (.inr (x4.K,(!(x5==[]))))
  else
   Qfm p0 p1 (wr (v8-1))
 else
  some (.inl ())
 partial_fixpoint
theorem Qaic:∀ (p0:Qab) (p1:(List Qak)),(∀ (v8:Int) (o1:Unit⊕(Int×Bool)),Qfm p0 p1 v8=some o1→TL (0,0) Tryz.prog 97 Q2p (JP2 (0,0) 97 o1 (.exit 1) (Qq4 p0 p1) .ret (Qq5 p0 p1)) (Qlv p0 p1 v8)):=by
 intro p0 p1;refine Qfm.partial_correctness p0 p1 _ ?_;intro Qfm' iQfm v8 o1 h;refine TL.round (Qao mixed tbOk (lv:=Qqf) _ _ _ ?_);refine Qad h (fun hb h=>?_) (fun hb h=>?_)
 ·refine Qa2 (l:=p1) (c:=Qbg) (c' := Qbg) h (fun _=>rfl) (fun _=>rfl) (by decide) (fun x4 hi h=>?_);refine Qad h (fun hb h=>?_) (fun hb h=>?_)
  ·refine And.intro (by decide +kernel) (And.intro rfl ?_);refine Qco [iV x4.K] Q2u h (fun x5 hy=>(Qacw x4.K x5 hy)) (fun x5 hy h=>?_);exact JP2.b h (Le.tz 1 0 rfl rfl rfl)
  ·refine TL.le (τ := Qlv p0 p1 (wr (v8-1))) ?_ ((iQfm (wr (v8-1)) _ h));exact Le.tz 1 0 rfl rfl rfl
 ·exact JP2.a h (Le.tz 1 0 rfl rfl rfl)
def Qa5 (p0:(List Int)) (p1:(List Int)) (v13:Int):Option (Unit⊕Unit) :=
 if(decide (v13<(p0.length:Int))) then
  idx p0 v13>>=fun x4 =>
  idx p1 v13>>=fun x5 =>
  if(x4 != x5) then
   some (.inr ())
  else
   Qa5 p0 p1 (wr (v13+1))
 else
  some (.inl ())
 partial_fixpoint
theorem Qui:∀ (p0:(List Int)) (p1:(List Int)),(∀ (v13:Int) (o1:Unit⊕Unit),Qa5 p0 p1 v13=some o1→TL (0,0) Tryz.prog 26 Qie (JP2 (0,0) 26 o1 (.exit 0) (Qdo p0 p1) .ret (Qdp p0 p1)) (Qcf p0 p1 v13)):=by
 intro p0 p1;refine Qa5.partial_correctness p0 p1 _ ?_;intro Qa5' iQa5 v13 o1 h;refine TL.round (Qao mixed tbOk (lv:=Qeb) _ _ _ ?_);refine Qad h (fun hb h=>?_) (fun hb h=>?_)
 ·refine And.intro (by decide +kernel) (And.intro rfl ?_);refine Qa2 (l:=p0) (c:=cInt) (c' := cInt) h (fun _=>rfl) (fun _=>rfl) (by decide) (fun x4 hi h=>?_);refine Qa2 (l:=p1) (c:=cInt) (c' := cInt) h (fun _=>rfl) (fun _=>rfl) (by decide) (fun x5 hi h=>?_);refine Qad h (fun hb h=>?_) (fun hb h=>?_)
  ·exact JP2.b h (Le.tz 0 0 rfl rfl rfl)
  ·refine TL.le (τ := Qcf p0 p1 (wr (v13+1))) ?_ ((iQa5 (wr (v13+1)) _ h));exact Le.tz 0 0 rfl rfl rfl
 ·exact JP2.a h (Le.tz 0 0 rfl rfl rfl)
def Qbo (p0:(List Int)) (p1:(List Int)):Option (Bool) :=
 if((p0.length:Int) != (p1.length:Int)) then
  some false
 else
  (Qa5 p0 p1 0)>>=fun o1 =>
  match o1 with
  | .inl y2 =>
   some true
  | .inr y3 =>
   some false
theorem Qjg:∀ (p0:(List Int)) (p1:(List Int)) (o:Bool),Qbo p0 p1=some o→PCall Tryz.prog 148 [.sl false (p0.map cInt),.sl false (p1.map cInt)] (Qbk o):=by
 intro p0 p1 o h;unfold Qbo at h;refine PCall.ofB mixed tbOk Qeb Tryz.func148 rfl (by kernel_rfl) (Nat.le_of_ble_eq_true rfl) ?_;refine view (Qat _ _) rfl ?_;refine view (Qat _ _) rfl ?_;refine Qad h (fun hb h=>?_) (fun hb h=>?_)
 ·refine Qam (t:=Qbk) h ?_;exact .refl _
 ·refine view (Qat _ _) rfl ?_;refine Qai h (fun o1 ho hk=>?_);refine Exists.intro (JP2 _ _ o1 (.exit 0) (Qdo p0 p1) .ret (Qdp p0 p1)) (And.intro (Qhe (τ := Qcf p0 p1 0) ?_ (TL.loop (Qui p0 p1 0 o1 ho))) (Qf3 (fun y2 hy=>?_) (fun y3 hy=>?_)))
  ·exact Le.tz 0 0 rfl rfl rfl
  ·have h:=(by rw[hy] at hk; exact hk);refine Qam (t:=Qbk) h ?_;exact .refl _
  ·have h:=(by rw[hy] at hk; exact hk);refine Qam (t:=Qbk) h ?_;exact .refl _
def Qbi (p0:Int) (p1:(List Int)) (h0_0:(List Int)):Option (Int×Bool) :=
 Qbo h0_0 p1>>=fun x1 =>
 if(!x1) then
  some (0,false)
 else
  some (p0,true)
theorem Qbj:∀ (p0:Int) (p1:(List Int)) (h0_0:(List Int)) (o:Int×Bool),Qbi p0 p1 h0_0=some o→CallOK Tryz.prog 147 [.p (iV p0),.p (.sl false (p1.map cInt)),.ptr 0 0] ⟨[[.p (.sl false (h0_0.map cInt))]],[]⟩ (Qqg o) ⟨[[.p (.sl false (h0_0.map cInt))]],[]⟩:=by
 intro p0 p1 h0_0 o h;unfold Qbi at h;refine CallOK.ofB mixed tbOk Q4t Tryz.func147 rfl (by kernel_rfl) (Nat.le_of_ble_eq_true rfl) rfl rfl rfl ?_;refine Qal [.sl false (h0_0.map cInt),.sl false (p1.map cInt)] Qbk h (fun x1 hy=>(Qjg h0_0 p1 x1 hy)) (fun x1 hy h=>?_);refine Qad h (fun hb h=>?_) (fun hb h=>?_)
 ·refine Exists.intro _ (And.intro (Le.refl _ _ _) ?_);exact Qb3 (t:=Qqg) (ss:=fun o=>⟨[[.p (.sl false (h0_0.map cInt))]],[]⟩) h ⟨[],rfl,.refl _,.refl _,rfl⟩
 ·refine Exists.intro _ (And.intro (Le.refl _ _ _) ?_);exact Qb3 (t:=Qqg) (ss:=fun o=>⟨[[.p (.sl false (h0_0.map cInt))]],[]⟩) h ⟨[],rfl,.refl _,.refl _,rfl⟩
def Qld (p0:Int):Option (Int×Bool) :=
 if(p0==7) then
  some (1,true)
 else
  if(p0==8) then
   some (4,true)
  else
   if(p0==9) then
    some (5,true)
   else
    some (0,false)
theorem Qyx:∀ (p0:Int) (o:Int×Bool),Qld p0=some o→PCall Tryz.prog 90 [iV p0] (Qid o):=by
 intro p0 o h;unfold Qld at h;refine PCall.ofB mixed tbOk Qacv Tryz.func90 rfl (by kernel_rfl) (Nat.le_of_ble_eq_true rfl) ?_;refine Qad h (fun hb h=>?_) (fun hb h=>?_)
 ·refine Qam (t:=Qid) h ?_;exact .refl _
 ·refine Qad h (fun hb h=>?_) (fun hb h=>?_)
  ·refine Qam (t:=Qid) h ?_;exact .refl _
  ·refine Qad h (fun hb h=>?_) (fun hb h=>?_)
   ·refine Qam (t:=Qid) h ?_;exact .refl _
   ·refine Qam (t:=Qid) h ?_;exact .refl _
def Qis (p0:Int):Option (Bool) :=
 ( if(decide (p0 ≥ 1)) then
   some (decide (p0≤3))
  else
   some false:Option (Bool))>>=fun o1 =>
 some o1
theorem Qxb:∀ (p0:Int) (o:Bool),Qis p0=some o→PCall Tryz.prog 89 [iV p0] (Qn4 o):=by
 intro p0 o h;unfold Qis at h;refine PCall.ofB mixed tbOk Q84 Tryz.func89 rfl (by kernel_rfl) (Nat.le_of_ble_eq_true rfl) ?_;refine Qai h (fun o1 ho hk=>?_);refine Exists.intro (JP1 _ _ o1 .normal (Q2v )) (And.intro ?_ (Qay ?_))
 ·have h:=ho;refine Qad h (fun hb h=>?_) (fun hb h=>?_)
  ·exact JP1.a h (Le.tz 0 0 rfl rfl rfl)
  ·exact JP1.a h (Le.tz 0 0 rfl rfl rfl)
 ·have h:=hk;refine Qam (t:=Qn4) h ?_;exact .refl _
def Qec (p0:(List UInt8)) (p1:(List Int)):Option (Int×Bool) :=
 ( if(p0==[117,112,112,101,114]) then
   some (p0==[117,112,112,101,114])
  else
   if(p0==[108,111,119,101,114]) then
    some (p0==[108,111,119,101,114])
   else
    some (p0==[116,114,105,109]):Option (Bool))>>=fun o1 =>
 if o1 then
  Qbi 1 [1] p1>>=fun x2 =>
  some (x2.1,x2.2)
 else
  if(p0==[115,105,122,101]) then
   Qbi 2 [1] p1>>=fun x3 =>
   some (x3.1,x3.2)
  else
   ( if(p0==[102,105,114,115,116]) then
     some (p0==[102,105,114,115,116])
    else
     some (p0==[108,97,115,116]):Option (Bool))>>=fun o4 =>
   if o4 then
    Qbi 1 [1,2] p1>>=fun x5 =>
    some (x5.1,x5.2)
   else
    ( if(p0==[100,101,102,97,117,108,116]) then
      some (p0==[100,101,102,97,117,108,116])
     else
      some (p0==[99,97,116]):Option (Bool))>>=fun o6 =>
    if o6 then
     Qbi 1 [1,1] p1>>=fun x7 =>
     some (x7.1,x7.2)
    else
     if(p0==[114,101,112,108,97,99,101]) then
      Qbi 1 [1,1,1] p1>>=fun x8 =>
      some (x8.1,x8.2)
     else
      if(p0==[106,111,105,110]) then
       Qbi 1 [7,1] p1>>=fun x9 =>
       some (x9.1,x9.2)
      else
       if(p0==[107,101,121,115]) then
        Qbi 7 [8] p1>>=fun x10 =>
        some (x10.1,x10.2)
       else
        if(p0==[103,101,116]) then
         Qbi 1 [8,1] p1>>=fun x11 =>
         some (x11.1,x11.2)
        else
         if(p0==[104,97,115]) then
          Qbi 3 [8,1] p1>>=fun x12 =>
          some (x12.1,x12.2)
         else
          if(p0==[99,111,117,110,116]) then
           if((p1.length:Int)==1) then
            idx p1 0>>=fun x13 =>
            Qld x13>>=fun x14 =>
            if x14.2 then
             some (2,true)
            else
             some (0,false)
           else
            some (0,false)
          else
           if(p0==[119,114,105,116,101]) then
            ( if((p1.length:Int)==1) then
              idx p1 0>>=fun x16 =>
              some (x16==3)
             else
              some false:Option (Bool))>>=fun o15 =>
            if o15 then
             some (1,true)
            else
             Qbi 1 [2] p1>>=fun x17 =>
             some (x17.1,x17.2)
           else
            if(p0==[115,97,109,101]) then
             ( if((p1.length:Int)==2) then
               idx p1 0>>=fun x19 =>
               idx p1 1>>=fun x20 =>
               if(x19==x20) then
                idx p1 0>>=fun x21 =>
                Qis x21>>=fun x22 =>
                some x22
               else
                some false
              else
               some false:Option (Bool))>>=fun o18 =>
             if o18 then
              some (3,true)
             else
              some (0,false)
            else
             if(p0==[108,101,115,115]) then
              Qbi 3 [2,2] p1>>=fun x23 =>
              some (x23.1,x23.2)
             else
              if(p0==[97,100,100]) then
               Qbi 2 [2,2] p1>>=fun x24 =>
               some (x24.1,x24.2)
              else
               if(p0==[115,117,98]) then
                Qbi 2 [2,2] p1>>=fun x25 =>
                some (x25.1,x25.2)
               else
                ( if(p0==[98,111,116,104]) then
                  some (p0==[98,111,116,104])
                 else
                  some (p0==[101,105,116,104,101,114]):Option (Bool))>>=fun o26 =>
                if o26 then
                 Qbi 3 [3,3] p1>>=fun x27 =>
                 some (x27.1,x27.2)
                else
                 if(p0==[110,111,116]) then
                  Qbi 3 [3] p1>>=fun x28 =>
                  some (x28.1,x28.2)
                 else
                  some (0,false)
theorem Qacx:∀ (p0:(List UInt8)) (p1:(List Int)) (o:Int×Bool),Qec p0 p1=some o→PCall Tryz.prog 119 [sV p0,.sl false (p1.map cInt)] (Qa9 o):=by
 intro p0 p1 o h;unfold Qec at h;refine PCall.ofB mixed tbOk Qacu Tryz.func119 rfl (by kernel_rfl) (Nat.le_of_ble_eq_true rfl) ?_;refine Qai h (fun o1 ho hk=>?_);refine Exists.intro (JP1 _ _ o1 .normal (Q4n p0 p1)) (And.intro ?_ (Qay ?_))
 ·have h:=ho;refine Qad h (fun hb h=>?_) (fun hb h=>?_)
  ·exact JP1.a h (Le.tz 1 0 rfl rfl rfl)
  ·refine Qad h (fun hb h=>?_) (fun hb h=>?_)
   ·exact JP1.a h (Le.tz 1 0 rfl rfl rfl)
   ·exact JP1.a h (Le.tz 1 0 rfl rfl rfl)
 ·have h:=hk;refine Qad h (fun hb h=>?_) (fun hb h=>?_)
  ·refine Qap _ _ h (fun x2 hy=>((Qbj 1 [1] p1 x2 hy).fr [0] [] rfl rfl rfl).weakC (.cons (.refl _) (.cons (.p (.not)) (.cons (.refl _) (.nil))))) (fun x2 hy h=>?_);refine Qam (t:=Qa9) h ?_;exact .refl _
  ·refine Qad h (fun hb h=>?_) (fun hb h=>?_)
   ·refine Qap _ _ h (fun x3 hy=>((Qbj 2 [1] p1 x3 hy).fr [0] [] rfl rfl rfl).weakC (.cons (.refl _) (.cons (.p (.not)) (.cons (.refl _) (.nil))))) (fun x3 hy h=>?_);refine Qam (t:=Qa9) h ?_;exact .refl _
   ·refine Qai h (fun o4 ho hk=>?_);refine Exists.intro (JP1 _ _ o4 .normal (Q4o p0 p1)) (And.intro ?_ (Qay ?_))
    ·have h:=ho;refine Qad h (fun hb h=>?_) (fun hb h=>?_)
     ·exact JP1.a h (Le.tz 1 0 rfl rfl rfl)
     ·exact JP1.a h (Le.tz 1 0 rfl rfl rfl)
    ·have h:=hk;refine Qad h (fun hb h=>?_) (fun hb h=>?_)
     ·refine Qap _ _ h (fun x5 hy=>((Qbj 1 [1,2] p1 x5 hy).fr [0] [] rfl rfl rfl).weakC (.cons (.refl _) (.cons (.p (.not)) (.cons (.refl _) (.nil))))) (fun x5 hy h=>?_);refine Qam (t:=Qa9) h ?_;exact .refl _
     ·refine Qai h (fun o6 ho hk=>?_);refine Exists.intro (JP1 _ _ o6 .normal (Q4p p0 p1)) (And.intro ?_ (Qay ?_))
      ·have h:=ho;refine Qad h (fun hb h=>?_) (fun hb h=>?_)
       ·exact JP1.a h (Le.tz 1 0 rfl rfl rfl)
       ·exact JP1.a h (Le.tz 1 0 rfl rfl rfl)
      ·have h:=hk;refine Qad h (fun hb h=>?_) (fun hb h=>?_)
       ·refine Qap _ _ h (fun x7 hy=>((Qbj 1 [1,1] p1 x7 hy).fr [0] [] rfl rfl rfl).weakC (.cons (.refl _) (.cons (.p (.not)) (.cons (.refl _) (.nil))))) (fun x7 hy h=>?_);refine Qam (t:=Qa9) h ?_;exact .refl _
       ·refine Qad h (fun hb h=>?_) (fun hb h=>?_)
        ·refine Qap _ _ h (fun x8 hy=>((Qbj 1 [1,1,1] p1 x8 hy).fr [0] [] rfl rfl rfl).weakC (.cons (.refl _) (.cons (.p (.not)) (.cons (.refl _) (.nil))))) (fun x8 hy h=>?_);refine Qam (t:=Qa9) h ?_;exact .refl _
        ·refine Qad h (fun hb h=>?_) (fun hb h=>?_)
         ·refine Qap _ _ h (fun x9 hy=>((Qbj 1 [7,1] p1 x9 hy).fr [0] [] rfl rfl rfl).weakC (.cons (.refl _) (.cons (.p (.not)) (.cons (.refl _) (.nil))))) (fun x9 hy h=>?_);refine Qam (t:=Qa9) h ?_;exact .refl _
         ·refine Qad h (fun hb h=>?_) (fun hb h=>?_)
          ·refine Qap _ _ h (fun x10 hy=>((Qbj 7 [8] p1 x10 hy).fr [0] [] rfl rfl rfl).weakC (.cons (.refl _) (.cons (.p (.not)) (.cons (.refl _) (.nil))))) (fun x10 hy h=>?_);refine Qam (t:=Qa9) h ?_;exact .refl _
          ·refine Qad h (fun hb h=>?_) (fun hb h=>?_)
           ·refine Qap _ _ h (fun x11 hy=>((Qbj 1 [8,1] p1 x11 hy).fr [0] [] rfl rfl rfl).weakC (.cons (.refl _) (.cons (.p (.not)) (.cons (.refl _) (.nil))))) (fun x11 hy h=>?_);refine Qam (t:=Qa9) h ?_;exact .refl _
           ·refine Qad h (fun hb h=>?_) (fun hb h=>?_)
            ·refine Qap _ _ h (fun x12 hy=>((Qbj 3 [8,1] p1 x12 hy).fr [0] [] rfl rfl rfl).weakC (.cons (.refl _) (.cons (.p (.not)) (.cons (.refl _) (.nil))))) (fun x12 hy h=>?_);refine Qam (t:=Qa9) h ?_;exact .refl _
            ·refine Qad h (fun hb h=>?_) (fun hb h=>?_)
             ·refine view (Qat _ _) rfl ?_;refine Qad h (fun hb h=>?_) (fun hb h=>?_)
              ·refine Qa2 (l:=p1) (c:=cInt) (c' := cInt) h (fun _=>rfl) (fun _=>rfl) (by decide) (fun x13 hi h=>?_);refine Qal [iV x13] Qid h (fun x14 hy=>(Qyx x13 x14 hy)) (fun x14 hy h=>?_);refine Qad h (fun hb h=>?_) (fun hb h=>?_)
               ·refine Qam (t:=Qa9) h ?_;exact .refl _
               ·refine Qam (t:=Qa9) h ?_;exact .refl _
              ·refine Qam (t:=Qa9) h ?_;exact .refl _
             ·refine Qad h (fun hb h=>?_) (fun hb h=>?_)
              ·refine Qai h (fun o15 ho hk=>?_);refine Exists.intro (JP1 _ _ o15 .normal (Q4q p1)) (And.intro ?_ (Qay ?_))
               ·have h:=ho;refine view (Qat _ _) rfl ?_;refine Qad h (fun hb h=>?_) (fun hb h=>?_)
                ·refine Qa2 (l:=p1) (c:=cInt) (c' := cInt) h (fun _=>rfl) (fun _=>rfl) (by decide) (fun x16 hi h=>?_);exact JP1.a h (Le.tz 1 0 rfl rfl rfl)
                ·exact JP1.a h (Le.tz 1 0 rfl rfl rfl)
               ·have h:=hk;refine Qad h (fun hb h=>?_) (fun hb h=>?_)
                ·refine Qam (t:=Qa9) h ?_;exact .refl _
                ·refine Qap _ _ h (fun x17 hy=>((Qbj 1 [2] p1 x17 hy).fr [0] [] rfl rfl rfl).weakC (.cons (.refl _) (.cons (.p (.not)) (.cons (.refl _) (.nil))))) (fun x17 hy h=>?_);refine Qam (t:=Qa9) h ?_;exact .refl _
              ·refine Qad h (fun hb h=>?_) (fun hb h=>?_)
               ·refine Qai h (fun o18 ho hk=>?_);refine Exists.intro (JP1 _ _ o18 .normal (Q4r p1)) (And.intro ?_ (Qay ?_))
                ·have h:=ho;refine And.intro (by decide +kernel) (And.intro rfl ?_);refine view (Qat _ _) rfl ?_;refine Qad h (fun hb h=>?_) (fun hb h=>?_)
                 ·refine Qa2 (l:=p1) (c:=cInt) (c' := cInt) h (fun _=>rfl) (fun _=>rfl) (by decide) (fun x19 hi h=>?_);refine Qa2 (l:=p1) (c:=cInt) (c' := cInt) h (fun _=>rfl) (fun _=>rfl) (by decide) (fun x20 hi h=>?_);refine Qad h (fun hb h=>?_) (fun hb h=>?_)
                  ·refine Qa2 (l:=p1) (c:=cInt) (c' := cInt) h (fun _=>rfl) (fun _=>rfl) (by decide) (fun x21 hi h=>?_);refine Qco [iV x21] Qn4 h (fun x22 hy=>(Qxb x21 x22 hy)) (fun x22 hy h=>?_);exact JP1.a h (Le.tz 1 0 rfl rfl rfl)
                  ·exact JP1.a h (Le.tz 1 0 rfl rfl rfl)
                 ·refine bF ?_;exact JP1.a h (Le.tz 1 0 rfl rfl rfl)
                ·have h:=hk;refine Qad h (fun hb h=>?_) (fun hb h=>?_)
                 ·refine Qam (t:=Qa9) h ?_;exact .refl _
                 ·refine Qam (t:=Qa9) h ?_;exact .refl _
               ·refine Qad h (fun hb h=>?_) (fun hb h=>?_)
                ·refine Qap _ _ h (fun x23 hy=>((Qbj 3 [2,2] p1 x23 hy).fr [0] [] rfl rfl rfl).weakC (.cons (.refl _) (.cons (.p (.not)) (.cons (.refl _) (.nil))))) (fun x23 hy h=>?_);refine Qam (t:=Qa9) h ?_;exact .refl _
                ·refine Qad h (fun hb h=>?_) (fun hb h=>?_)
                 ·refine Qap _ _ h (fun x24 hy=>((Qbj 2 [2,2] p1 x24 hy).fr [0] [] rfl rfl rfl).weakC (.cons (.refl _) (.cons (.p (.not)) (.cons (.refl _) (.nil))))) (fun x24 hy h=>?_);refine Qam (t:=Qa9) h ?_;exact .refl _
                 ·refine Qad h (fun hb h=>?_) (fun hb h=>?_)
                  ·refine Qap _ _ h (fun x25 hy=>((Qbj 2 [2,2] p1 x25 hy).fr [0] [] rfl rfl rfl).weakC (.cons (.refl _) (.cons (.p (.not)) (.cons (.refl _) (.nil))))) (fun x25 hy h=>?_);refine Qam (t:=Qa9) h ?_;exact .refl _
                  ·refine Qai h (fun o26 ho hk=>?_);refine Exists.intro (JP1 _ _ o26 .normal (Q4s p0 p1)) (And.intro ?_ (Qay ?_))
                   ·have h:=ho;refine Qad h (fun hb h=>?_) (fun hb h=>?_)
                    ·exact JP1.a h (Le.tz 1 0 rfl rfl rfl)
                    ·exact JP1.a h (Le.tz 1 0 rfl rfl rfl)
                   ·have h:=hk;refine Qad h (fun hb h=>?_) (fun hb h=>?_)
                    ·refine Qap _ _ h (fun x27 hy=>((Qbj 3 [3,3] p1 x27 hy).fr [0] [] rfl rfl rfl).weakC (.cons (.refl _) (.cons (.p (.not)) (.cons (.refl _) (.nil))))) (fun x27 hy h=>?_);refine Qam (t:=Qa9) h ?_;exact .refl _
                    ·refine Qad h (fun hb h=>?_) (fun hb h=>?_)
                     ·refine Qap _ _ h (fun x28 hy=>((Qbj 3 [3] p1 x28 hy).fr [0] [] rfl rfl rfl).weakC (.cons (.refl _) (.cons (.p (.not)) (.cons (.refl _) (.nil))))) (fun x28 hy h=>?_);refine Qam (t:=Qa9) h ?_;exact .refl _
                     ·refine Qam (t:=Qa9) h ?_;exact .refl _
def Qfn (p0:Int) (p1:(List UInt8)) (x1:(List Qa7)) (v10:Int):Option (Unit⊕Int) :=
 if(decide (v10<(x1.length:Int))) then
  idx x1 v10>>=fun x5 =>
  ( if(x5.of_==p0) then
    some (x5.name_==p1)
   else
    some false:Option (Bool))>>=fun o6 =>
  if o6 then
   some (.inr x5.is_)
  else
   Qfn p0 p1 x1 (wr (v10+1))
 else
  some (.inl ())
 partial_fixpoint
theorem Qaid:∀ (p0:Int) (p1:(List UInt8)) (x1:(List Qa7)),(∀ (v10:Int) (o2:Unit⊕Int),Qfn p0 p1 x1 v10=some o2→TL (0,0) Tryz.prog 27 Q2t (JP2 (0,0) 27 o2 (.exit 0) (Qq8 p0 p1 x1) .ret (Qq9 p0 p1 x1)) (Qlx p0 p1 x1 v10)):=by
 intro p0 p1 x1;refine Qfn.partial_correctness p0 p1 x1 _ ?_;intro Qfn' iQfn v10 o2 h;refine TL.round (Qao mixed tbOk (lv:=Qw6) _ _ _ ?_);refine Qad h (fun hb h=>?_) (fun hb h=>?_)
 ·refine Qa2 (l:=x1) (c:=Qk9) (c' := Qk9) h (fun _=>rfl) (fun _=>rfl) (by decide) (fun x5 hi h=>?_);refine Qai h (fun o6 ho hk=>?_);refine Exists.intro (JP1 _ _ o6 .normal (Q2s p0 p1 x1 v10 x5)) (And.intro ?_ (Qay ?_))
  ·have h:=ho;refine Qad h (fun hb h=>?_) (fun hb h=>?_)
   ·exact JP1.a h (Le.tz 1 0 rfl rfl rfl)
   ·exact JP1.a h (Le.tz 1 0 rfl rfl rfl)
  ·have h:=hk;refine Qad h (fun hb h=>?_) (fun hb h=>?_)
   ·exact JP2.b h (Le.tz 0 0 rfl rfl rfl)
   ·refine TL.le (τ := Qlx p0 p1 x1 (wr (v10+1))) ?_ ((iQfn (wr (v10+1)) _ h));exact Le.tz 0 0 rfl rfl rfl
 ·exact JP2.a h (Le.tz 0 0 rfl rfl rfl)
def Qts:Option ((List Qa7)) :=
 some ([(Qa7.mk 4 [107,101,121] 1),(Qa7.mk 4 [118,97,108] 1),(Qa7.mk 5 [102,105,114,105,110,103] 3),(Qa7.mk 5 [115,116,97,114,116,115] 2),(Qa7.mk 5 [118,97,108,117,101] 2),(Qa7.mk 5 [108,97,98,101,108,115] 8),(Qa7.mk 5 [110,111,116,101,115] 8),(Qa7.mk 5 [108,105,110,107] 1),(Qa7.mk 6 [114,101,99,101,105,118,101,114] 1),(Qa7.mk 6 [102,105,114,105,110,103] 3),(Qa7.mk 6 [99,111,109,109,111,110] 8),(Qa7.mk 6 [108,105,110,107] 1),(Qa7.mk 6 [97,108,101,114,116,115] 9)])
theorem Q87:∀ (o:(List Qa7)),Qts  = some o→PCall Tryz.prog 149 [] (Qs6 o):=by
 intro o h;unfold Qts at h;refine PCall.ofB mixed tbOk Q85 Tryz.func149 rfl (by kernel_rfl) (Nat.le_of_ble_eq_true rfl) ?_;refine Qam (t:=Qs6) h ?_;exact .p (.not)
def Qmh (p0:Int) (p1:(List UInt8)):Option (Int×Bool) :=
 Qts>>=fun x1 =>
 (Qfn p0 p1 x1 0)>>=fun o2 =>
 match o2 with
 | .inl y3 =>
  some (0,false)
 | .inr y4 =>
  some (y4,true)
theorem Q88:∀ (p0:Int) (p1:(List UInt8)) (o:Int×Bool),Qmh p0 p1=some o→PCall Tryz.prog 120 [iV p0,sV p1] (Qn3 o):=by
 intro p0 p1 o h;unfold Qmh at h;refine PCall.ofB mixed tbOk Qw6 Tryz.func120 rfl (by kernel_rfl) (Nat.le_of_ble_eq_true rfl) ?_;refine Qal [] Qs6 h (fun x1 hy=>(Q87 x1 hy)) (fun x1 hy h=>?_);refine view (Qat _ _) rfl ?_;refine Qai h (fun o2 ho hk=>?_);refine Exists.intro (JP2 _ _ o2 (.exit 0) (Qq8 p0 p1 x1) .ret (Qq9 p0 p1 x1)) (And.intro (Qhe (τ := Qlx p0 p1 x1 0) ?_ (TL.loop (Qaid p0 p1 x1 0 o2 ho))) (Qf3 (fun y3 hy=>?_) (fun y4 hy=>?_)))
 ·exact Le.tz 0 0 rfl rfl rfl
 ·have h:=(by rw[hy] at hk; exact hk);refine Qam (t:=Qn3) h ?_;exact .refl _
 ·have h:=(by rw[hy] at hk; exact hk);refine Qam (t:=Qn3) h ?_;exact .refl _
mutual
def Qit (p0:Qab) (p1:(List Qak)) (p2:(List (List UInt8))):Option (Int×Bool) :=
 if(p0.Kind==1) then
  some (1,true)
 else
  if(p0.Kind==2) then
   some (2,true)
  else
   if(p0.Kind==3) then
    some (3,true)
   else
    if(p0.Kind==4) then
     (Qfm p0 p1 (wr ((p1.length:Int)-1)))>>=fun o1 =>
     match o1 with
     | .inl y2 =>
      some (0,false)
     | .inr y3 =>
      some (y3.1,y3.2)
    else
     if(p0.Kind==7) then
      Qbf p2 p0.Name>>=fun x6 =>
      if x6 then
       some (1,true)
      else
       some (0,false)
     else
      ( if(p0.Kind==5) then
        some (p0.Kind==5)
       else
        some (p0.Kind==6):Option (Bool))>>=fun o7 =>
      if o7 then
       (Qha p0 p1 p2 [] 0)>>=fun o8 =>
       match o8 with
       | .inl y9 =>
        if(p0.Kind==6) then
         Qec p0.Name y9>>=fun x14 =>
         some (x14.1,x14.2)
        else
         if((y9.length:Int)==1) then
          idx y9 0>>=fun x15 =>
          Qmh x15 p0.Name>>=fun x16 =>
          some (x16.1,x16.2)
         else
          some (0,false)
       | .inr y10 =>
        some (0,false)
      else
       some (0,false)
 partial_fixpoint
def Qha (p0:Qab) (p1:(List Qak)) (p2:(List (List UInt8))) (v10:(List Int)) (v59:Int):Option ((List Int)⊕Unit) :=
 if(decide (v59<(p0.L.length:Int))) then
  idx p0.L v59>>=fun x11 =>
  Qit x11 p1 p2>>=fun x12 =>
  if(!x12.2) then
   some (.inr ())
  else
   appL 8 v10 [x12.1]>>=fun x13 =>
   Qha p0 p1 p2 x13 (wr (v59+1))
 else
  some (.inl v10)
 partial_fixpoint
end
theorem Q4u:∀ (p1:(List Qak)) (p2:(List (List UInt8))),(∀ (p0:Qab) (o:Int×Bool),Qit p0 p1 p2=some o→PCall Tryz.prog 87 [.agg [iV p0.Kind,sV p0.Name,sV p0.Text,iV p0.N,.sl false (p0.L.map Qaa),.sl false (p0.Then.map Qaa),.sl false (p0.Else.map Qaa)],.sl false (p1.map Qbg),.sl false (p2.map cStr)] (Qbq o))∧(∀ (p0:Qab) (v10:(List Int)) (v59:Int) (o8:(List Int)⊕Unit),Qha p0 p1 p2 v10 v59=some o8→TL (0,0) Tryz.prog 97 Q2r (JP2 (0,0) 97 o8 (.exit 3) (Qq6 p0 p1 p2) .ret (Qq7 p0 p1 p2)) (Qlw p0 p1 p2 v10 v59)):=by
 intro p1 p2;refine Qit.mutual_partial_correctness p1 p2 _ _ ?_ ?_
 ·intro Qha' iQha p0 o h;refine PCall.ofB mixed tbOk Qqf Tryz.func87 rfl (by kernel_rfl) (Nat.le_of_ble_eq_true rfl) ?_;refine Qad h (fun hb h=>?_) (fun hb h=>?_)
  ·refine Qam (t:=Qbq) h ?_;exact .refl _
  ·refine Qad h (fun hb h=>?_) (fun hb h=>?_)
   ·refine Qam (t:=Qbq) h ?_;exact .refl _
   ·refine Qad h (fun hb h=>?_) (fun hb h=>?_)
    ·refine Qam (t:=Qbq) h ?_;exact .refl _
    ·refine Qad h (fun hb h=>?_) (fun hb h=>?_)
     ·refine view (Qat _ _) rfl ?_;refine Qai h (fun o1 ho hk=>?_);refine Exists.intro (JP2 _ _ o1 (.exit 1) (Qq4 p0 p1) .ret (Qq5 p0 p1)) (And.intro (Qhe (τ := Qlv p0 p1 (wr ((p1.length:Int)-1))) ?_ (TL.loop (Qaic p0 p1 (wr ((p1.length:Int)-1)) o1 ho))) (Qf3 (fun y2 hy=>?_) (fun y3 hy=>?_)))
      ·exact Le.tz 1 0 rfl rfl rfl
      ·have h:=(by rw[hy] at hk; exact hk);refine Qam (t:=Qbq) h ?_;exact .refl _
      ·have h:=(by rw[hy] at hk; exact hk);refine Qam (t:=Qbq) h ?_;exact .refl _
     ·refine Qad h (fun hb h=>?_) (fun hb h=>?_)
      ·refine Qal [.sl false (p2.map cStr),sV p0.Name] Qb4 h (fun x6 hy=>(Qep p2 p0.Name x6 hy)) (fun x6 hy h=>?_);refine Qad h (fun hb h=>?_) (fun hb h=>?_)
       ·refine Qam (t:=Qbq) h ?_;exact .refl _
       ·refine Qam (t:=Qbq) h ?_;exact .refl _
      ·refine Qai h (fun o7 ho hk=>?_);refine Exists.intro (JP1 _ _ o7 .normal (Q2q p0 p1 p2)) (And.intro ?_ (Qay ?_))
       ·have h:=ho;refine Qad h (fun hb h=>?_) (fun hb h=>?_)
        ·exact JP1.a h (Le.tz 1 0 rfl rfl rfl)
        ·exact JP1.a h (Le.tz 1 0 rfl rfl rfl)
       ·have h:=hk;refine Qad h (fun hb h=>?_) (fun hb h=>?_)
        ·refine view (Qat _ _) rfl ?_;refine Qai h (fun o8 ho hk=>?_);refine Exists.intro (JP2 _ _ o8 (.exit 3) (Qq6 p0 p1 p2) .ret (Qq7 p0 p1 p2)) (And.intro (Qhe (τ := Qlw p0 p1 p2 [] 0) ?_ (TL.loop (iQha p0 [] 0 o8 ho))) (Qf3 (fun y9 hy=>?_) (fun y10 hy=>?_)))
         ·exact(Le.own 10 44 1 rfl Qxs).trans (Le.tz 1 1 rfl rfl rfl)
         ·have h:=(by rw[hy] at hk; exact hk);refine Qad h (fun hb h=>?_) (fun hb h=>?_)
          ·refine Qal [sV p0.Name,.sl false (y9.map cInt)] Qa9 h (fun x14 hy=>(Qacx p0.Name y9 x14 hy)) (fun x14 hy h=>?_);refine Qam (t:=Qbq) h ?_;exact .refl _
          ·refine view (Qat _ _) rfl ?_;refine Qad h (fun hb h=>?_) (fun hb h=>?_)
           ·refine And.intro (by decide +kernel) (And.intro rfl ?_);refine Qa2 (l:=y9) (c:=cInt) (c' := cInt) h (fun _=>rfl) (fun _=>rfl) (by decide) (fun x15 hi h=>?_);refine Qco [iV x15,sV p0.Name] Qn3 h (fun x16 hy=>(Q88 x15 p0.Name x16 hy)) (fun x16 hy h=>?_);refine Qam (t:=Qbq) h ?_;exact .refl _
           ·refine Qam (t:=Qbq) h ?_;exact .refl _
         ·have h:=(by rw[hy] at hk; exact hk);refine Qam (t:=Qbq) h ?_;exact .refl _
        ·refine Qam (t:=Qbq) h ?_;exact .refl _
 ·intro Qit' Qha' iQit iQha p0 v10 v59 o8 h;refine TL.round (Qao mixed tbOk (lv:=Qqf) _ _ _ ?_);refine Qad h (fun hb h=>?_) (fun hb h=>?_)
  ·refine Qa2 (l:=p0.L) (c:=Qaa) (c' := Qa0) h Qaq (fun _=>rfl) (by decide) (fun x11 hi h=>?_);refine Qal [.agg [iV x11.Kind,sV x11.Name,sV x11.Text,iV x11.N,.sl false (x11.L.map Qaa),.sl false (x11.Then.map Qaa),.sl false (x11.Else.map Qaa)],.sl false (p1.map Qbg),.sl false (p2.map cStr)] Qbq h (fun x12 hy=>(iQit x11 x12 hy)) (fun x12 hy h=>?_);refine Qad h (fun hb h=>?_) (fun hb h=>?_)
   ·exact JP2.b h (Le.tz 1 0 rfl rfl rfl)
   ·refine Qix (a:=v10) (b:=[x12.1]) (c:=cInt) h (.refl _) (fun _=>rfl) rfl (fun x13 hi h=>?_);refine TL.le (τ := Qlw p0 p1 p2 x13 (wr (v59+1))) ?_ ((iQha p0 x13 (wr (v59+1)) _ h));exact Le.tz 1 1 rfl rfl rfl
  ·exact JP2.a h (Le.tz 1 1 rfl rfl rfl)
theorem Q89:∀ (p0:Qab) (p1:(List Qak)) (p2:(List (List UInt8))) (o:Int×Bool),Qit p0 p1 p2=some o→PCall Tryz.prog 87 [.agg [iV p0.Kind,sV p0.Name,sV p0.Text,iV p0.N,.sl false (p0.L.map Qaa),.sl false (p0.Then.map Qaa),.sl false (p0.Else.map Qaa)],.sl false (p1.map Qbg),.sl false (p2.map cStr)] (Qbq o):=fun p0 p1 p2=>(Q4u p1 p2).1 p0
mutual
def Qbc (p1:(List UInt8)) (p2:(List Qab)) (p3:(List Qak)) (h0_0:(List Qae)) (h0_1:(List (List UInt8))) (h1_0:(List (Qan×Int))):Option (((List (Qan×Int)))⊕((List UInt8)×(List (Qan×Int)))) :=
 (Qbe p1 p2 p3 h0_0 h0_1 0 h1_0)>>=fun o1 =>
 match o1 with
 | .inl y2 =>
  some (.inl y2)
 | .inr y3 =>
  some (.inr (y3.1,y3.2))
 partial_fixpoint
def Qbe (p1:(List UInt8)) (p2:(List Qab)) (p3:(List Qak)) (h0_0:(List Qae)) (h0_1:(List (List UInt8))) (v17:Int) (h1_0_:(List (Qan×Int))):Option (((List (Qan×Int)))⊕((List UInt8)×(List (Qan×Int)))) :=
 if(decide (v17<(p2.length:Int))) then
  idx p2 v17>>=fun x4 =>
  if(x4.Kind==8) then
   Qbe p1 p2 p3 h0_0 h0_1 (wr (v17+1)) h1_0_
  else
   idx x4.L 0>>=fun x5 =>
   Qit x5 p3 h0_1>>=fun x6 =>
   Qca p3>>=fun x7 =>
   ( if(x4.Kind==9) then
     if x6.2 then
      Qis x6.1>>=fun x9 =>
      some (x9,x7)
     else
      some (false,x7)
    else
     if(x4.Kind==10) then
      if x6.2 then
       some ((x6.1==3),x7)
      else
       some (false,x7)
     else
      if(x4.Kind==11) then
       Qld x6.1>>=fun x10 =>
       ( if x6.2 then
         some x10.2
        else
         some false:Option (Bool))>>=fun o11 =>
       appL 32 x7 [(Qak.mk x4.Name x10.1 false)]>>=fun x12 =>
       some (o11,x12)
      else
       if(x4.Kind==12) then
        appL 32 x7 [(Qak.mk x4.Name x6.1 false)]>>=fun x13 =>
        some (x6.2,x13)
       else
        some (x6.2,x7):Option ((Bool×(List Qak))))>>=fun o8 =>
   if(!o8.1) then
    some (.inr (p1,h1_0_))
   else
    if(x4.Kind==13) then
     Qhb (Qan.mk x4.Name x6.1) h0_0 h0_1 h1_0_>>=fun o15 =>
     match o15 with
     | .inl x14 =>
      Qbe p1 p2 p3 h0_0 h0_1 (wr (v17+1)) x14
     | .inr z16 =>
      some (.inr (z16.1,z16.2))
    else
     Qbc p1 x4.Then o8.2 h0_0 h0_1 h1_0_>>=fun o18 =>
     match o18 with
     | .inl x17 =>
      Qbc p1 x4.Else p3 h0_0 h0_1 x17>>=fun o21 =>
      match o21 with
      | .inl x20 =>
       Qbe p1 p2 p3 h0_0 h0_1 (wr (v17+1)) x20
      | .inr z22 =>
       some (.inr (z22.1,z22.2))
     | .inr z19 =>
      some (.inr (z19.1,z19.2))
 else
  some (.inl h1_0_)
 partial_fixpoint
def Qhb (p1:Qan) (h0_0:(List Qae)) (h0_1:(List (List UInt8))) (h1_0:(List (Qan×Int))):Option (((List (Qan×Int)))⊕((List UInt8)×(List (Qan×Int)))) :=
 if(decide (((mget (fun(a b:Qan)=>(a.name_==b.name_&&(a.it_==b.it_&&true))) p1 h1_0).getD 0)>0)) then
  some (.inl h1_0)
 else
  Qkg h0_0 p1.name_>>=fun x1 =>
  Qbc p1.name_ x1.1 ([(Qak.mk [103,114,111,117,112] 6 false),(Qak.mk [105,116] p1.it_ false)]) h0_0 h0_1 h1_0>>=fun o3 =>
  match o3 with
  | .inl x2 =>
   some (.inl (mset (fun(a b:Qan)=>(a.name_==b.name_&&(a.it_==b.it_&&true))) p1 1 x2))
  | .inr z4 =>
   some (.inr (z4.1,z4.2))
 partial_fixpoint
end
theorem Qqh:∀ (h0_0:(List Qae)) (h0_1:(List (List UInt8))),(∀ (p1:(List UInt8)) (p2:(List Qab)) (p3:(List Qak)) (h1_0:(List (Qan×Int))) (o:((List (Qan×Int)))⊕((List UInt8)×(List (Qan×Int)))),Qbc p1 p2 p3 h0_0 h0_1 h1_0=some o→CallS Tryz.prog 67 [.ptr 0 0,.p (sV p1),.p (.sl false (p2.map Qaa)),.p (.sl false (p3.map Qbg))] ⟨[[.p (.sl false (h0_0.map Qaf)),.p (.sl false (h0_1.map cStr)),.mh 1],[mpD (fun x =>.agg (Qa4 x)) iV h1_0]],[]⟩ Qgs (fun(o:(List (Qan×Int)))=>⟨[[.p (.sl false (h0_0.map Qaf)),.p (.sl false (h0_1.map cStr)),.mh 1],[mpD (fun x =>.agg (Qa4 x)) iV o]],[]⟩) (fun(o:(List UInt8)×(List (Qan×Int)))=>o.1) (fun(o:(List UInt8)×(List (Qan×Int)))=>⟨[[.p (.sl false (h0_0.map Qaf)),.p (.sl false (h0_1.map cStr)),.mh 1],[mpD (fun x =>.agg (Qa4 x)) iV o.2]],[]⟩) o)∧(∀ (p1:(List UInt8)) (p2:(List Qab)) (p3:(List Qak)) (v17:Int) (h1_0_:(List (Qan×Int))) (o1:((List (Qan×Int)))⊕((List UInt8)×(List (Qan×Int)))),Qbe p1 p2 p3 h0_0 h0_1 v17 h1_0_=some o1→TL (2,0) Tryz.prog 109 Qpj (JP2p (2,0) 109 o1 (.exit 0) (Qho p1 p2 p3 h0_0 h0_1) (fun y3 =>.panic (Qml y3.1)) (Qhp p1 p2 p3 h0_0 h0_1)) (Qce p1 p2 p3 h0_0 h0_1 v17 h1_0_))∧(∀ (p1:Qan) (h1_0:(List (Qan×Int))) (o:((List (Qan×Int)))⊕((List UInt8)×(List (Qan×Int)))),Qhb p1 h0_0 h0_1 h1_0=some o→CallS Tryz.prog 91 [.ptr 0 0,.p (.agg [sV p1.name_,iV p1.it_])] ⟨[[.p (.sl false (h0_0.map Qaf)),.p (.sl false (h0_1.map cStr)),.mh 1],[mpD (fun x =>.agg (Qa4 x)) iV h1_0]],[]⟩ Qic (fun(o:(List (Qan×Int)))=>⟨[[.p (.sl false (h0_0.map Qaf)),.p (.sl false (h0_1.map cStr)),.mh 1],[mpD (fun x =>.agg (Qa4 x)) iV o]],[]⟩) (fun(o:(List UInt8)×(List (Qan×Int)))=>o.1) (fun(o:(List UInt8)×(List (Qan×Int)))=>⟨[[.p (.sl false (h0_0.map Qaf)),.p (.sl false (h0_1.map cStr)),.mh 1],[mpD (fun x =>.agg (Qa4 x)) iV o.2]],[]⟩) o):=by
 intro h0_0 h0_1;refine Qbc.mutual_partial_correctness h0_0 h0_1 _ _ _ ?_ ?_ ?_
 ·intro Qbe' iQbe p1 p2 p3 h1_0 o h;refine CallS.ofB mixed tbOk Qjx Tryz.func67 rfl (by kernel_rfl) (Nat.le_of_ble_eq_true rfl) (fun _=>rfl) (fun _=>rfl) (fun _=>rfl) (fun _=>rfl) (fun _=>rfl) ?_;refine view (Qat _ _) rfl ?_;refine Qai h (fun o1 ho hk=>?_);refine Exists.intro (JP2p _ _ o1 (.exit 0) (Qho p1 p2 p3 h0_0 h0_1) (fun y3 =>.panic (Qml y3.1)) (Qhp p1 p2 p3 h0_0 h0_1)) (And.intro (Qhe (τ := Qce p1 p2 p3 h0_0 h0_1 0 h1_0) ?_ (TL.loop (iQbe p1 p2 p3 0 h1_0 o1 ho))) (Qaqx (fun y2 hy=>?_) (fun y3 hy=>?_)))
  ·exact Le.tz 2 0 rfl rfl rfl
  ·have h:=(by rw[hy] at hk; exact hk);refine Exists.intro _ (And.intro (Le.refl _ _ _) ?_);exact Qaeu (t:=Qgs) (ss:=fun(o:(List (Qan×Int)))=>⟨[[.p (.sl false (h0_0.map Qaf)),.p (.sl false (h0_1.map cStr)),.mh 1],[mpD (fun x =>.agg (Qa4 x)) iV o]],[]⟩) h ⟨[],rfl,.refl _,.refl _,rfl⟩
  ·have h:=(by rw[hy] at hk; exact hk);refine xle ?_;refine Qalk (zp:=fun(o:(List UInt8)×(List (Qan×Int)))=>o.1) (sp:=fun(o:(List UInt8)×(List (Qan×Int)))=>⟨[[.p (.sl false (h0_0.map Qaf)),.p (.sl false (h0_1.map cStr)),.mh 1],[mpD (fun x =>.agg (Qa4 x)) iV o.2]],[]⟩) h rfl ?_;exact⟨[],rfl,.refl _,.refl _,rfl⟩
 ·intro Qbc' Qbe' Qhb' iQbc iQbe iQhb p1 p2 p3 v17 h1_0_ o1 h;refine TL.round (Qao mixed tbOk (lv:=Qjx) _ _ _ ?_);refine Qad h (fun hb h=>?_) (fun hb h=>?_)
  ·refine Qa2 (l:=p2) (c:=Qaa) (c' := Qa0) h Qaq (fun _=>rfl) (by decide) (fun x4 hi h=>?_);refine Qad h (fun hb h=>?_) (fun hb h=>?_)
   ·refine TL.le (τ := Qce p1 p2 p3 h0_0 h0_1 (wr (v17+1)) h1_0_) ?_ ((iQbe p1 p2 p3 (wr (v17+1)) h1_0_ _ h));exact Le.tz 2 0 rfl rfl rfl
   ·refine And.intro (by decide +kernel) (And.intro rfl ?_);refine Qa2 (l:=x4.L) (c:=Qaa) (c' := Qa0) h Qaq (fun _=>rfl) (by decide) (fun x5 hi h=>?_);refine Qco [.agg [iV x5.Kind,sV x5.Name,sV x5.Text,iV x5.N,.sl false (x5.L.map Qaa),.sl false (x5.Then.map Qaa),.sl false (x5.Else.map Qaa)],.sl false (p3.map Qbg),.sl false (h0_1.map cStr)] Qbq h (fun x6 hy=>(Q89 x5 p3 h0_1 x6 hy)) (fun x6 hy h=>?_);refine Qap _ _ h (fun x7 hy=>((Qje p3 x7 hy).fr [] [] rfl rfl rfl)) (fun x7 hy h=>?_);refine Qai h (fun o8 ho hk=>?_);refine Exists.intro (JP1 _ _ o8 .normal (Qph p1 p2 p3 h0_0 h0_1 v17 h1_0_ x4 x6)) (And.intro ?_ (Qay ?_))
    ·have h:=ho;refine Qad h (fun hb h=>?_) (fun hb h=>?_)
     ·refine Qad h (fun hb h=>?_) (fun hb h=>?_)
      ·refine Qal [iV x6.1] Qn4 h (fun x9 hy=>(Qxb x6.1 x9 hy)) (fun x9 hy h=>?_);exact JP1.a h (Le.tz 3 1 rfl rfl rfl)
      ·exact JP1.a h (Le.tz 3 1 rfl rfl rfl)
     ·refine Qad h (fun hb h=>?_) (fun hb h=>?_)
      ·refine Qad h (fun hb h=>?_) (fun hb h=>?_)
       ·exact JP1.a h (Le.tz 3 1 rfl rfl rfl)
       ·exact JP1.a h (Le.tz 3 1 rfl rfl rfl)
      ·refine Qad h (fun hb h=>?_) (fun hb h=>?_)
       ·refine Qal [iV x6.1] Qid h (fun x10 hy=>(Qyx x6.1 x10 hy)) (fun x10 hy h=>?_);refine Qai h (fun o11 ho hk=>?_);refine Exists.intro (JP1 _ _ o11 .normal (Qpi p1 p2 p3 h0_0 h0_1 v17 h1_0_ x4 x6 x7 x10)) (And.intro ?_ (Qay ?_))
        ·have h:=ho;refine Qad h (fun hb h=>?_) (fun hb h=>?_)
         ·exact JP1.a h (Le.tz 3 1 rfl rfl rfl)
         ·exact JP1.a h (Le.tz 3 1 rfl rfl rfl)
        ·have h:=hk;refine Q07 (a:=x7) (b:=[(Qak.mk x4.Name x10.1 false)]) (c:=Qbg) h (.refl _) (fun _=>rfl) rfl (fun x12 hi h=>?_);refine JP1.a h ?_;exact Le.trans (τ := ⟨[(0,.ptr 0 0),(1,.p (sV p1)),(3,.p (.sl false (p3.map Qbg))),(9,.ptr 2 0),(10,.p (iV x6.1)),(11,.p (bV o11)),(12,.x 0 2 (.sl 46 3 (x12.map Qbg))),(15,.p (.sl false (p2.map Qaa))),(16,.p (iV (p2.length:Int))),(17,.p (iV v17))],⟨[[.p (.sl false (h0_0.map Qaf)),.p (.sl false (h0_1.map cStr)),.mh 1],[mpD (fun x =>.agg (Qa4 x)) iV h1_0_],[.p (iV x4.Kind),.p (sV x4.Name),.p (sV x4.Text),.p (iV x4.N),.p (.sl false (x4.L.map Qaa)),.p (.sl false (x4.Then.map Qaa)),.p (.sl false (x4.Else.map Qaa))]],[2]⟩⟩) (Le.tz 3 1 rfl rfl rfl) ((Le.ver (.s 12) 0 2 1 rfl rfl rfl rfl).trans (Le.tz 3 1 rfl rfl rfl))
       ·refine Qad h (fun hb h=>?_) (fun hb h=>?_)
        ·refine Q07 (a:=x7) (b:=[(Qak.mk x4.Name x6.1 false)]) (c:=Qbg) h (.refl _) (fun _=>rfl) rfl (fun x13 hi h=>?_);refine JP1.a h ?_;exact Le.trans (τ := ⟨[(0,.ptr 0 0),(1,.p (sV p1)),(3,.p (.sl false (p3.map Qbg))),(9,.ptr 2 0),(10,.p (iV x6.1)),(11,.p (bV x6.2)),(12,.x 0 2 (.sl 46 3 (x13.map Qbg))),(15,.p (.sl false (p2.map Qaa))),(16,.p (iV (p2.length:Int))),(17,.p (iV v17))],⟨[[.p (.sl false (h0_0.map Qaf)),.p (.sl false (h0_1.map cStr)),.mh 1],[mpD (fun x =>.agg (Qa4 x)) iV h1_0_],[.p (iV x4.Kind),.p (sV x4.Name),.p (sV x4.Text),.p (iV x4.N),.p (.sl false (x4.L.map Qaa)),.p (.sl false (x4.Then.map Qaa)),.p (.sl false (x4.Else.map Qaa))]],[2]⟩⟩) (Le.tz 3 1 rfl rfl rfl) ((Le.ver (.s 12) 0 2 1 rfl rfl rfl rfl).trans (Le.tz 3 1 rfl rfl rfl))
        ·exact JP1.a h (Le.tz 3 1 rfl rfl rfl)
    ·have h:=hk;refine Qad h (fun hb h=>?_) (fun hb h=>?_)
     ·refine xle ?_;refine And.intro rfl (And.intro rfl (And.intro (fun d h=>by cases h; exact Nat.le_of_ble_eq_true rfl) (Exists.intro p1 (And.intro rfl (And.intro rfl ?_)))));exact JP2p.b h (Le.tz 2 0 rfl rfl rfl)
     ·refine Qad h (fun hb h=>?_) (fun hb h=>?_)
      ·refine xle ?_;refine Qw4 _ _ _ _ h (fun x14 hy=>((iQhb (Qan.mk x4.Name x6.1) h1_0_ (.inl x14) hy).a.fr [0,1] [] rfl rfl rfl)) (fun z16 hy=>((iQhb (Qan.mk x4.Name x6.1) h1_0_ (.inr z16) hy).b.fr [0,1] [] rfl rfl rfl)) (fun x14 hy h=>?_) (fun z16 hy h=>?_)
       ·refine TL.le (τ := Qce p1 p2 p3 h0_0 h0_1 (wr (v17+1)) x14) ?_ ((iQbe p1 p2 p3 (wr (v17+1)) x14 _ h));exact Le.tz 2 0 rfl rfl rfl
       ·exact JP2p.b h (Le.tz 2 0 rfl rfl rfl)
      ·refine Exists.intro _ (And.intro (Le.frzv (.s 12) 0 1 rfl rfl rfl rfl) ?_);refine Qw4 _ _ _ _ h (fun x17 hy=>((iQbc p1 x4.Then o8.2 h1_0_ (.inl x17) hy).a.fr [0,1] [] rfl rfl rfl)) (fun z19 hy=>((iQbc p1 x4.Then o8.2 h1_0_ (.inr z19) hy).b.fr [0,1] [] rfl rfl rfl)) (fun x17 hy h=>?_) (fun z19 hy h=>?_)
       ·refine xle ?_;refine Qw4 _ _ _ _ h (fun x20 hy=>((iQbc p1 x4.Else p3 x17 (.inl x20) hy).a.fr [0,1] [] rfl rfl rfl)) (fun z22 hy=>((iQbc p1 x4.Else p3 x17 (.inr z22) hy).b.fr [0,1] [] rfl rfl rfl)) (fun x20 hy h=>?_) (fun z22 hy h=>?_)
        ·refine TL.le (τ := Qce p1 p2 p3 h0_0 h0_1 (wr (v17+1)) x20) ?_ ((iQbe p1 p2 p3 (wr (v17+1)) x20 _ h));exact Le.tz 2 0 rfl rfl rfl
        ·exact JP2p.b h (Le.tz 2 0 rfl rfl rfl)
       ·exact JP2p.b h (Le.tz 2 0 rfl rfl rfl)
  ·exact JP2p.a h (Le.tz 2 0 rfl rfl rfl)
 ·intro Qbc' iQbc p1 h1_0 o h;refine CallS.ofB mixed tbOk Quf Tryz.func91 rfl (by kernel_rfl) (Nat.le_of_ble_eq_true rfl) (fun _=>rfl) (fun _=>rfl) (fun _=>rfl) (fun _=>rfl) (fun _=>rfl) ?_;refine And.intro (by decide +kernel) (And.intro rfl ?_);refine And.intro rfl ?_;refine Qva (l:=h1_0) (k:=p1) (fun(a b:Qan)=>(a.name_==b.name_&&(a.it_==b.it_&&true))) (ck:=(fun x =>.agg (Qa4 x))) (ca:=iV) (z0:=0) (by exact rfl) (by exact rfl) (by exact rfl) (by exact fun _ _=>rfl) (by exact rfl) (by exact .refl _) ?_;refine Qad h (fun hb h=>?_) (fun hb h=>?_)
  ·refine Exists.intro _ (And.intro (Le.refl _ _ _) ?_);exact Qaeu (t:=Qic) (ss:=fun(o:(List (Qan×Int)))=>⟨[[.p (.sl false (h0_0.map Qaf)),.p (.sl false (h0_1.map cStr)),.mh 1],[mpD (fun x =>.agg (Qa4 x)) iV o]],[]⟩) h ⟨[],rfl,.refl _,.refl _,rfl⟩
  ·refine And.intro (by decide +kernel) (And.intro rfl ?_);refine Qco [.sl false (h0_0.map Qaf),sV p1.name_] Qin h (fun x1 hy=>(Qp4 h0_0 p1.name_ x1 hy)) (fun x1 hy h=>?_);refine xle ?_;refine Qw4 _ _ _ _ h (fun x2 hy=>((iQbc p1.name_ x1.1 ([(Qak.mk [103,114,111,117,112] 6 false),(Qak.mk [105,116] p1.it_ false)]) h1_0 (.inl x2) hy).a.fr [0,1] [] rfl rfl rfl).weakC (.cons (.refl _) (.cons (.refl _) (.cons (.refl _) (.cons (.p (.not)) (.nil)))))) (fun z4 hy=>((iQbc p1.name_ x1.1 ([(Qak.mk [103,114,111,117,112] 6 false),(Qak.mk [105,116] p1.it_ false)]) h1_0 (.inr z4) hy).b.fr [0,1] [] rfl rfl rfl).weakC (.cons (.refl _) (.cons (.refl _) (.cons (.refl _) (.cons (.p (.not)) (.nil)))))) (fun x2 hy h=>?_) (fun z4 hy h=>?_)
   ·refine And.intro (by decide +kernel) (And.intro (by decide +kernel) (And.intro rfl ?_));refine Qagb (l:=x2) (k:=p1) (x:=1) (fun(a b:Qan)=>(a.name_==b.name_&&(a.it_==b.it_&&true))) (ck:=(fun x =>.agg (Qa4 x))) (ca:=iV) (by exact rfl) (by exact rfl) (by exact rfl) (by exact .refl _) (by exact fun _ _=>rfl) ?_;refine Exists.intro _ (And.intro (Le.refl _ _ _) ?_);exact Qaeu (t:=Qic) (ss:=fun(o:(List (Qan×Int)))=>⟨[[.p (.sl false (h0_0.map Qaf)),.p (.sl false (h0_1.map cStr)),.mh 1],[mpD (fun x =>.agg (Qa4 x)) iV o]],[]⟩) h ⟨[],rfl,.refl _,.refl _,rfl⟩
   ·refine xle ?_;refine Qalk (zp:=fun(o:(List UInt8)×(List (Qan×Int)))=>o.1) (sp:=fun(o:(List UInt8)×(List (Qan×Int)))=>⟨[[.p (.sl false (h0_0.map Qaf)),.p (.sl false (h0_1.map cStr)),.mh 1],[mpD (fun x =>.agg (Qa4 x)) iV o.2]],[]⟩) h rfl ?_;exact⟨[],rfl,.refl _,.refl _,rfl⟩
theorem Qjy:∀ (p1:(List UInt8)) (p2:(List Qab)) (p3:(List Qak)) (h0_0:(List Qae)) (h0_1:(List (List UInt8))) (h1_0:(List (Qan×Int))) (o:((List (Qan×Int)))⊕((List UInt8)×(List (Qan×Int)))),Qbc p1 p2 p3 h0_0 h0_1 h1_0=some o→CallS Tryz.prog 67 [.ptr 0 0,.p (sV p1),.p (.sl false (p2.map Qaa)),.p (.sl false (p3.map Qbg))] ⟨[[.p (.sl false (h0_0.map Qaf)),.p (.sl false (h0_1.map cStr)),.mh 1],[mpD (fun x =>.agg (Qa4 x)) iV h1_0]],[]⟩ Qgs (fun(o:(List (Qan×Int)))=>⟨[[.p (.sl false (h0_0.map Qaf)),.p (.sl false (h0_1.map cStr)),.mh 1],[mpD (fun x =>.agg (Qa4 x)) iV o]],[]⟩) (fun(o:(List UInt8)×(List (Qan×Int)))=>o.1) (fun(o:(List UInt8)×(List (Qan×Int)))=>⟨[[.p (.sl false (h0_0.map Qaf)),.p (.sl false (h0_1.map cStr)),.mh 1],[mpD (fun x =>.agg (Qa4 x)) iV o.2]],[]⟩) o:=fun p1 p2 p3 h0_0 h0_1 h1_0=>(Qqh h0_0 h0_1).1 p1 p2 p3 h1_0
def Qel (p0:(List Qae)) (p1:(List UInt8)) (p2:(List (List UInt8))):Option ((List UInt8)×Int) :=
 Qnc p0>>=fun x1 =>
 if(x1.2 != 0) then
  some (x1.1,x1.2)
 else
  Qkg p0 p1>>=fun x2 =>
  if(!x2.2) then
   some ([],4)
  else
   Qbc p1 x2.1 [(Qak.mk [103,114,111,117,112] 6 false)] p0 p2 []>>=fun o3 =>
   match o3 with
   | .inl x3 =>
    some ([],0)
   | .inr z4 =>
    some (z4.1,201)
theorem Qhq:∀ (p0:(List Qae)) (p1:(List UInt8)) (p2:(List (List UInt8))) (o:(List UInt8)×Int),Qel p0 p1 p2=some o→PCall Tryz.prog 35 [.sl false (p0.map Qaf),sV p1,.sl false (p2.map cStr)] (Qci o):=by
 intro p0 p1 p2 o h;unfold Qel at h;refine Qall (lv:=Q4m) rfl ?_;refine Qal [.sl false (p0.map Qaf)] Qe2 h (fun x1 hy=>(Q4f p0 x1 hy)) (fun x1 hy h=>?_);refine Qad h (fun hb h=>?_) (fun hb h=>?_)
 ·exact Qam (t:=Qci) h (.refl _)
 ·refine Qal [.sl false (p0.map Qaf),sV p1] Qin h (fun x2 hy=>(Qp4 p0 p1 x2 hy)) (fun x2 hy h=>?_);refine Qad h (fun hb h=>?_) (fun hb h=>?_)
  ·exact Qam (t:=Qci) h (.refl _)
  ·refine And.intro rfl (And.intro rfl (And.intro rfl (And.intro rfl (And.intro rfl ?_))));refine And.intro rfl (Exists.intro false ?_);refine xle ?_;refine Qw4 _ _ _ _ h (fun x3 hy=>((Qjy p1 x2.1 [(Qak.mk [103,114,111,117,112] 6 false)] p0 p2 [] (.inl x3) hy).a.fr [3,2] [] rfl rfl rfl).weakC (.cons (.refl _) (.cons (.refl _) (.cons (.refl _) (.cons (.p (.not)) .nil))))) (fun z4 hy=>((Qjy p1 x2.1 [(Qak.mk [103,114,111,117,112] 6 false)] p0 p2 [] (.inr z4) hy).b.fr [3,2] [] rfl rfl rfl).weakC (.cons (.refl _) (.cons (.refl _) (.cons (.refl _) (.cons (.p (.not)) .nil))))) (fun x3 hy h=>?_) (fun z4 hy h=>?_)
   ·exact Qam (t:=Qci) h (.refl _)
   ·refine Exists.intro z4.1 (And.intro rfl (And.intro rfl (And.intro rfl (And.intro rfl (And.intro rfl ?_)))));refine And.intro rfl (And.intro rfl ?_)
    first | (refine And.intro rfl ?_; exact Qam (t:=Qci) h (.refl _)) | (refine And.intro rfl (And.intro rfl ?_); exact Qam (t:=Qci) h (.refl _)) | (refine And.intro rfl (And.intro rfl (And.intro rfl ?_)); exact Qam (t:=Qci) h (.refl _))
def Qd1 (p0:(List UInt8)):Option ((List Qae)) :=
 Qpe p0>>=fun x1 =>
 some ([(Qae.mk [109] x1.1)])
theorem Qjh:∀ (p0:(List UInt8)) (o:(List Qae)),Qd1 p0=some o→PCall Tryz.prog 65 [sV p0] (Qev o):=by
 intro p0 o h;unfold Qd1 at h;refine PCall.ofB mixed tbOk Qw7 Tryz.func65 rfl (by kernel_rfl) (Nat.le_of_ble_eq_true rfl) ?_;refine Qal [sV p0] Qgp h (fun x1 hy=>(Qaci p0 x1 hy)) (fun x1 hy h=>?_);refine Qam (t:=Qev) h ?_;exact .p (.not)
def Qb5:Option (Bool) :=
 Qd1 [123,123,32,101,97,99,104,32,97,32,105,110,32,103,114,111,117,112,46,97,108,101,114,116,115,32,125,125,123,123,32,103,101,116,40,97,46,108,97,98,101,108,115,44,32,34,120,34,41,32,125,125,123,123,32,101,110,100,32,125,125]>>=fun x1 =>
 Qel x1 [109] []>>=fun x2 =>
 Qd1 [123,123,32,103,114,111,117,112,46,97,108,101,114,116,115,32,125,125]>>=fun x3 =>
 Qel x3 [109] []>>=fun x4 =>
 Qd1 [123,123,32,105,102,32,103,114,111,117,112,46,108,105,110,107,32,125,125,123,123,32,101,110,100,32,125,125]>>=fun x5 =>
 Qel x5 [109] []>>=fun x6 =>
 ( if(x2.2==0) then
   if(x4.1==[109]) then
    if(x4.2==201) then
     some (x6.2==201)
    else
     some false
   else
    some false
  else
   some false:Option (Bool))>>=fun o7 =>
 some o7
theorem Qhh:∀ (o:Bool),Qb5  = some o→PCall Tryz.prog 33 [] (Qd0 o):=by
 intro o h;unfold Qb5 at h;refine PCall.ofB mixed tbOk Qug Tryz.func33 rfl (by kernel_rfl) (Nat.le_of_ble_eq_true rfl) ?_;refine Qal [sV [123,123,32,101,97,99,104,32,97,32,105,110,32,103,114,111,117,112,46,97,108,101,114,116,115,32,125,125,123,123,32,103,101,116,40,97,46,108,97,98,101,108,115,44,32,34,120,34,41,32,125,125,123,123,32,101,110,100,32,125,125]] Qev h (fun x1 hy=>(Qjh [123,123,32,101,97,99,104,32,97,32,105,110,32,103,114,111,117,112,46,97,108,101,114,116,115,32,125,125,123,123,32,103,101,116,40,97,46,108,97,98,101,108,115,44,32,34,120,34,41,32,125,125,123,123,32,101,110,100,32,125,125] x1 hy)) (fun x1 hy h=>?_);refine Qal [.sl false (x1.map Qaf),sV [109],.sl true []] Qci h (fun x2 hy=>(Qhq x1 [109] [] x2 hy).weak (.cons (.refl _) (.cons (.refl _) (.cons (.not) (.nil))))) (fun x2 hy h=>?_);refine Qal [sV [123,123,32,103,114,111,117,112,46,97,108,101,114,116,115,32,125,125]] Qev h (fun x3 hy=>(Qjh [123,123,32,103,114,111,117,112,46,97,108,101,114,116,115,32,125,125] x3 hy)) (fun x3 hy h=>?_);refine Qal [.sl false (x3.map Qaf),sV [109],.sl true []] Qci h (fun x4 hy=>(Qhq x3 [109] [] x4 hy).weak (.cons (.refl _) (.cons (.refl _) (.cons (.not) (.nil))))) (fun x4 hy h=>?_);refine Qal [sV [123,123,32,105,102,32,103,114,111,117,112,46,108,105,110,107,32,125,125,123,123,32,101,110,100,32,125,125]] Qev h (fun x5 hy=>(Qjh [123,123,32,105,102,32,103,114,111,117,112,46,108,105,110,107,32,125,125,123,123,32,101,110,100,32,125,125] x5 hy)) (fun x5 hy h=>?_)
 refine Qal [.sl false (x5.map Qaf),sV [109],.sl true []] Qci h (fun x6 hy=>(Qhq x5 [109] [] x6 hy).weak (.cons (.refl _) (.cons (.refl _) (.cons (.not) (.nil))))) (fun x6 hy h=>?_);refine Qai h (fun o7 ho hk=>?_);refine Exists.intro (JP1 _ _ o7 .normal (Qrh )) (And.intro ?_ (Qay ?_))
 ·have h:=ho;refine Qad h (fun hb h=>?_) (fun hb h=>?_)
  ·refine Qad h (fun hb h=>?_) (fun hb h=>?_)
   ·refine Qad h (fun hb h=>?_) (fun hb h=>?_)
    ·exact JP1.a h (Le.tz 0 0 rfl rfl rfl)
    ·exact JP1.a h (Le.tz 0 0 rfl rfl rfl)
   ·refine bF ?_;exact JP1.a h (Le.tz 0 0 rfl rfl rfl)
  ·refine bF ?_;refine bF ?_;exact JP1.a h (Le.tz 0 0 rfl rfl rfl)
 ·have h:=hk;refine Qam (t:=Qd0) h ?_;exact .refl _
def Qc7 (p0:(List (List UInt8))):Option ((List (List UInt8))) :=
 cutL p0 0 (if 8<(p0.length:Int) then 8 else(p0.length:Int))>>=fun x1 =>
 some x1
theorem Ql1:∀ (p0:(List (List UInt8))) (o:(List (List UInt8))),Qc7 p0=some o→PCall Tryz.prog 34 [.sl false (p0.map cStr)] (Qfl o):=by
 intro p0 o h;unfold Qc7 at h;refine PCall.ofB mixed tbOk Quh Tryz.func34 rfl (by kernel_rfl) (Nat.le_of_ble_eq_true rfl) ?_;refine view (Qat _ _) rfl ?_;refine Qaa9 (c:=cStr) none (some (if 8<(p0.length:Int) then 8 else(p0.length:Int))) h (fun _=>rfl) (fun x1 hi h=>?_);refine Qam (t:=Qfl) h ?_;exact .refl _
def Qji (p0:(List Qae)) (p1:(List UInt8)) (p2:(List (List UInt8))):Option (Bool) :=
 Qdr p0 p1>>=fun x1 =>
 if(!x1.2) then
  Qb5>>=fun x2 =>
  some x2
 else
  Qc7 p2>>=fun x3 =>
  Qel x1.1 p1 x3>>=fun x4 =>
  Q2x x1.1 p1 x3>>=fun x5 =>
  ( if(x4.1==x5.1) then
    if(x4.2==x5.2) then
     Qb5>>=fun x7 =>
     some x7
    else
     some false
   else
    some false:Option (Bool))>>=fun o6 =>
  some o6
def Qdd (p0:(List Qae)) (p1:(List UInt8)) (p2:(List (List UInt8))) (p3:(List (List UInt8))):Option (Bool) :=
 Qdr p0 p1>>=fun x1 =>
 if(!x1.2) then
  Qb5>>=fun x2 =>
  some x2
 else
  Qc7 p2>>=fun x3 =>
  Qc7 p3>>=fun x4 =>
  Qel x1.1 p1 x3>>=fun x5 =>
  appL 16 [] x3>>=fun x6 =>
  appL 16 x6 x4>>=fun x7 =>
  Qel x1.1 p1 x7>>=fun x8 =>
  ( if(x5.2 != 0) then
    Qb5>>=fun x10 =>
    some x10
   else
    if(x8.2==0) then
     Qb5>>=fun x11 =>
     some x11
    else
     some false:Option (Bool))>>=fun o9 =>
  some o9
theorem Qpl:∀ (p0:(List Qae)) (p1:(List UInt8)) (p2:(List (List UInt8))) (p3:(List (List UInt8))) (o:Bool),Qdd p0 p1 p2 p3=some o→PCall Tryz.prog 10 [.sl false (p0.map Qaf),sV p1,.sl false (p2.map cStr),.sl false (p3.map cStr)] (Qfk o):=by
 intro p0 p1 p2 p3 o h;unfold Qdd at h;refine PCall.ofB mixed tbOk Qpk Tryz.func10 rfl (by kernel_rfl) (Nat.le_of_ble_eq_true rfl) ?_;refine Qal [.sl false (p0.map Qaf),sV p1] Qfd h (fun x1 hy=>(Qud p0 p1 x1 hy)) (fun x1 hy h=>?_);refine Qad h (fun hb h=>?_) (fun hb h=>?_)
 ·refine Qal [] Qd0 h (fun x2 hy=>(Qhh x2 hy)) (fun x2 hy h=>?_);refine Qam (t:=Qfk) h ?_;exact .refl _
 ·refine Qal [.sl false (p2.map cStr)] Qfl h (fun x3 hy=>(Ql1 p2 x3 hy)) (fun x3 hy h=>?_);refine Qal [.sl false (p3.map cStr)] Qfl h (fun x4 hy=>(Ql1 p3 x4 hy)) (fun x4 hy h=>?_);refine Qal [.sl false (x1.1.map Qaf),sV p1,.sl false (x3.map cStr)] Qci h (fun x5 hy=>(Qhq x1.1 p1 x3 x5 hy)) (fun x5 hy h=>?_);refine Qad8 (a:=([]:List (List UInt8))) (b:=x3) (c:=cStr) h (.refl _) (.refl _) (fun _=>rfl) (.inl rfl) (fun x6 hi h=>?_);refine Qix (a:=x6) (b:=x4) (c:=cStr) h (.refl _) (fun _=>rfl) rfl (fun x7 hi h=>?_);refine Qal [.sl false (x1.1.map Qaf),sV p1,.sl false (x7.map cStr)] Qci h (fun x8 hy=>(Qhq x1.1 p1 x7 x8 hy)) (fun x8 hy h=>?_);refine Qai h (fun o9 ho hk=>?_);refine Exists.intro (JP1 _ _ o9 .normal (Qnh x7)) (And.intro ?_ (Qay ?_))
  ·have h:=ho;refine Qad h (fun hb h=>?_) (fun hb h=>?_)
   ·refine bT ?_;refine Qal [] Qd0 h (fun x10 hy=>(Qhh x10 hy)) (fun x10 hy h=>?_);exact JP1.a h (Le.tz 0 1 rfl rfl rfl)
   ·refine Qad h (fun hb h=>?_) (fun hb h=>?_)
    ·refine Qal [] Qd0 h (fun x11 hy=>(Qhh x11 hy)) (fun x11 hy h=>?_);exact JP1.a h (Le.tz 0 1 rfl rfl rfl)
    ·exact JP1.a h (Le.tz 0 1 rfl rfl rfl)
  ·have h:=hk;refine Qam (t:=Qfk) h ?_;exact .refl _
end Go.Proofs.YtfgegilhjlnohaaGreat
end

noncomputable section
namespace Go.Proofs.YtfgegilhjlnohaaGreat
open Go.RowKit
set_option linter.unusedSimpArgs false
set_option linter.unusedVariables false
abbrev Qyy:List Qbr:=[⟨[117,112,112,101,114],[1],1⟩,⟨[108,111,119,101,114],[1],1⟩,⟨[116,114,105,109],[1],1⟩,⟨[115,105,122,101],[1],2⟩,⟨[102,105,114,115,116],[1,2],1⟩,⟨[108,97,115,116],[1,2],1⟩,⟨[100,101,102,97,117,108,116],[1,1],1⟩,⟨[99,97,116],[1,1],1⟩,⟨[114,101,112,108,97,99,101],[1,1,1],1⟩,⟨[106,111,105,110],[7,1],1⟩,⟨[107,101,121,115],[8],7⟩,⟨[103,101,116],[8,1],1⟩,⟨[104,97,115],[8,1],3⟩,⟨[99,111,117,110,116],[7],2⟩,⟨[99,111,117,110,116],[8],2⟩,⟨[99,111,117,110,116],[9],2⟩,⟨[119,114,105,116,101],[2],1⟩,⟨[119,114,105,116,101],[3],1⟩,⟨[97,100,100],[2,2],2⟩,⟨[115,117,98],[2,2],2⟩,⟨[108,101,115,115],[2,2],3⟩,⟨[115,97,109,101],[1,1],3⟩,⟨[115,97,109,101],[2,2],3⟩,⟨[115,97,109,101],[3,3],3⟩,⟨[98,111,116,104],[3,3],3⟩,⟨[101,105,116,104,101,114],[3,3],3⟩,⟨[110,111,116],[3],3⟩]
def Qzj(s:Nm)(L:List Int):Int×Bool:=match Qyy.find? (fun r=>r.Name==s&&r.In==L) with | none=>(0,false) | some r=>(r.Gives,true)
theorem Qaez(s:Nm)(L:List Int)(x1:List Qbr)(v:Int)(i:Int):Qif s L x1 v false i=some false:=by
 rw[Qif,if_neg (by simp),Qac,if_neg (by simp)]
theorem Qar2(s:Nm)(L:List Int)(x1:List Qbr)(v:Nat)(r:Qbr)(hr:x1[v]? = some r)(hl:r.In.length=L.length)(hL:L.length≤1000):∀ k,k≤L.length→Qif s L x1 v true k=some (r.In.drop k==L.drop k):=by
 refine upto ?_ fun k hk ih=>?_
 ·have:decide (((L.length:Nat):Int)<(L.length:Int))=false:=decide_eq_false (by omega);rw[Qif,if_pos rfl,this,Qac,if_neg (by simp),List.drop_length,← hl,List.drop_length]; rfl
 ·have hk' : k<r.In.length:=by omega
  rw[Qif,if_pos rfl,ltI,decide_eq_true hk,Qac,if_pos rfl,Qa1,hr,Qac,Qa1,getE hk', Qac,Qa1,getE hk,Qac,Qcc hk,Qcc hk', List.cons_beq_cons,Qa3 (show k<9223372036854775807 by omega)];rcases Bool.eq_false_or_eq_true (r.In[k]==L[k]) with hb | hb
  ·rw[hb,ih,Bool.true_and]
  ·rw[hb,Qaez,Bool.false_and]
theorem Qar3(s:Nm)(L:List Int)(x1:List Qbr)(hx:x1.length≤1000)(hL:L.length≤1000):∀ k,k≤x1.length→Qnf s L x1 k=some (match (x1.drop k).find? (fun r=>r.Name==s&&r.In==L) with | none =>.inl () | some r =>.inr r.Gives):=by
 refine upto ?_ fun k hk ih=>?_
 ·have:decide (((x1.length:Nat):Int)<(x1.length:Int))=false:=decide_eq_false (by omega);rw[Qnf,this,if_neg (by simp),List.drop_length]; rfl
 ·rw[Qnf,ltI,decide_eq_true hk,if_pos rfl,Qcc hk,List.find?_cons,Qa1,getE hk,Qac,Qa3 (show k<9223372036854775807 by omega),ih];rcases Bool.eq_false_or_eq_true (x1[k].Name==s) with hb | hb
  ·rw[hb,if_pos rfl,Qac,Qac,Bool.true_and];by_cases hl:x1[k].In.length=L.length
   ·have e:(((x1[k].In.length:Nat):Int)==(L.length:Int))=true:=by rw[hl]; simp
    have h2:=Qar2 s L x1 k x1[k] (getE hk) hl hL 0 (by omega);rw[show((0:Nat):Int)=0 from rfl,List.drop_zero,List.drop_zero] at h2;rw[e,h2,Qac];rcases Bool.eq_false_or_eq_true (x1[k].In==L) with hc | hc
    ·rw[hc,if_pos rfl,Qac]
    ·rw[hc,if_neg (by simp)]
   ·have e:(((x1[k].In.length:Nat):Int)==(L.length:Int))=false:=by rw[beq_eq_false_iff_ne]; omega
    have hc:(x1[k].In==L)=false:=by rw[beq_eq_false_iff_ne]; exact fun h=>hl (by rw[h])
    rw[e,Qaez,Qac,if_neg (by simp),hc]
  ·rw[hb,if_neg (by simp),Qac,Qaez,Qac,if_neg (by simp),Bool.false_and]
theorem Qap4(s:Nm)(L:List Int)(hL:L.length≤1000):Qz8 s L=some (Qzj s L):=by
 have h:=Qar3 s L Qyy (by decide) hL 0 (by omega);rw[show((0:Nat):Int)=0 from rfl,List.drop_zero] at h;have e:Qagu=some Qyy:=rfl;rw[Qz8,e,Qac,h,Qac,Qzj];cases Qyy.find? (fun r=>r.Name==s&&r.In==L)<;>rfl
theorem Qar4(a b:List Int)(hl:a.length=b.length)(hb:b.length≤1000):∀ k,k≤a.length→Qa5 a b k=some (if(a.drop k==b.drop k)=true then .inl () else .inr ()):=by
 refine upto ?_ fun k hk ih=>?_
 ·have:decide (((a.length:Nat):Int)<(a.length:Int))=false:=decide_eq_false (by omega);rw[Qa5,this,if_neg (by simp),List.drop_length,hl,List.drop_length]; rfl
 ·have hk' : k<b.length:=by omega
  rw[Qa5,ltI,decide_eq_true hk,if_pos rfl,Qa1,getE hk,Qac,Qa1,getE hk', Qac,Qa3 (show k<9223372036854775807 by omega),ih,Qcc hk,Qcc hk', List.cons_beq_cons];by_cases hb:a[k]=b[k]
  ·have h1:(a[k] != b[k])=false:=by rw[hb]; simp
   have h2:(a[k]==b[k])=true:=by rw[hb]; simp
   rw[h1,h2,if_neg (by simp),Bool.true_and]
  ·have h1:(a[k] != b[k])=true:=by simpa using hb
   have h2:(a[k]==b[k])=false:=by simpa using hb
   rw[h1,h2,if_pos rfl,Bool.false_and,if_neg (by simp)]
theorem Qatj(a b:List Int)(hb:b.length≤1000):Qbo a b=some (a==b):=by
 rw[Qbo];by_cases hl:a.length=b.length
 ·have e:(((a.length:Nat):Int) != (b.length:Int))=false:=by rw[hl]; simp
  have h:=Qar4 a b hl hb 0 (by omega);rw[show((0:Nat):Int)=0 from rfl,List.drop_zero,List.drop_zero] at h;rw[e,if_neg (by simp),h,Qac];rcases Bool.eq_false_or_eq_true (a==b) with hc | hc
  ·rw[hc,if_pos rfl]
  ·rw[hc,if_neg (by simp)]
 ·have e:(((a.length:Nat):Int) != (b.length:Int))=true:=by simpa using fun h=>hl (by omega)
  have hc:(a==b)=false:=by rw[beq_eq_false_iff_ne]; exact fun h=>hl (by rw[h])
  rw[e,if_pos rfl,hc]
theorem Qar5(g:Int)(w L:List Int)(hw:w.length≤1000):Qbi g w L=some (if(L==w)=true then(g,true) else(0,false)):=by
 rw[Qbi,Qatj L w hw,Qac];rcases Bool.eq_false_or_eq_true (L==w) with hc | hc
 ·rw[hc,if_neg (by simp),if_pos rfl]
 ·rw[hc,if_pos (by simp),if_neg (by simp)]
theorem Qxc(s:Nm)(L:List Int)(rs:List Qbr)(h:Qyy.filter (·.Name==s)=rs):Qzj s L=match rs.find? (·.In==L) with | none=>(0,false) | some r=>(r.Gives,true):=by
 rw[Qzj,← h,List.find?_filter];have e:(fun r:Qbr=>r.Name==s&&r.In==L)=fun r=>decide ((r.Name==s)=true∧(r.In==L)=true):=by funext r; rw[Bool.decide_and,Bool.decide_coe,Bool.decide_coe]
 rw[e]
theorem kOne(s:Nm)(g:Int)(w L:List Int)(hw:w.length≤1000)(h1:Qec s L=(Qbi g w L>>=fun x=>some (x.1,x.2)))(h2:Qyy.filter (·.Name==s)=[⟨s,w,g⟩]):Qec s L=some (Qzj s L):=by
 rw[h1,Qar5 g w L hw,Qxc s L _ h2,Qac];have e:(w==L)=(L==w):=Bool.beq_comm;rcases Bool.eq_false_or_eq_true (L==w) with hc | hc
 ·simp only[List.find?_cons,e,hc,if_true]
 ·simp only[List.find?_cons,e,hc,List.find?_nil,Bool.false_eq_true,if_false]
def Qae0:List Nm:=[[117,112,112,101,114],[108,111,119,101,114],[116,114,105,109],[115,105,122,101],[102,105,114,115,116],[108,97,115,116],[100,101,102,97,117,108,116],[99,97,116],[114,101,112,108,97,99,101],[106,111,105,110],[107,101,121,115],[103,101,116],[104,97,115],[97,100,100],[115,117,98],[108,101,115,115],[98,111,116,104],[101,105,116,104,101,114],[110,111,116]]
theorem Qar6(L:List Int):Qec [99,111,117,110,116] L=some (Qzj [99,111,117,110,116] L):=by
 have h1:Qec [99,111,117,110,116] L=(if((L.length:Int)==1) then idx L 0>>=fun x=>Qld x>>=fun y=>if y.2 then some (2,true) else some (0,false) else some (0,false)):=rfl;rw[h1,Qxc _ L [⟨[99,111,117,110,116],[7],2⟩,⟨[99,111,117,110,116],[8],2⟩,⟨[99,111,117,110,116],[9],2⟩] rfl]
 match L with
 | []=>rfl
 | [a] =>
  have hi:idx [a] 0=some a:=rfl;have h0:((([a]:List Int).length:Int)==1)=true:=rfl;rw[if_pos h0,hi,Qac,Qld];by_cases h7:a=7
  ·subst h7; rfl
  ·by_cases h8:a=8
   ·subst h8; rfl
   ·by_cases h9:a=9
    ·subst h9; rfl
    ·have e7:(a==7)=false:=by simpa using h7
     have e8:(a==8)=false:=by simpa using h8
     have e9:(a==9)=false:=by simpa using h9
     have f7:(([7]:List Int)==[a])=false:=by simpa using fun h:(7:Int)=a=>h7 h.symm
     have f8:(([8]:List Int)==[a])=false:=by simpa using fun h:(8:Int)=a=>h8 h.symm
     have f9:(([9]:List Int)==[a])=false:=by simpa using fun h:(9:Int)=a=>h9 h.symm
     simp only[e7,e8,e9,List.find?_cons,f7,f8,f9,List.find?_nil];rfl
 | a::b::r =>
  have e:((((a::b::r).length:Nat):Int)==1)=false:=by rw[beq_eq_false_iff_ne]; simp; omega
  have f:∀ c:Int,([c]==a::b::r)=false:=fun c=>by rw[beq_eq_false_iff_ne]; simp
  rw[e,if_neg (by simp)];simp only[List.find?_cons,f,List.find?_nil]
theorem Qar7(L:List Int):Qec [119,114,105,116,101] L=some (Qzj [119,114,105,116,101] L):=by
 have h1:Qec [119,114,105,116,101] L=((if((L.length:Int)==1) then idx L 0>>=fun x=>some (x==3) else some false:Option Bool)>>=fun o=>if o then some (1,true) else Qbi 1 [2] L>>=fun x=>some (x.1,x.2)):=rfl;rw[h1,Qar5 1 [2] L (by decide),Qxc _ L [⟨[119,114,105,116,101],[2],1⟩,⟨[119,114,105,116,101],[3],1⟩] rfl]
 match L with
 | []=>rfl
 | [a] =>
  have hi:idx [a] 0=some a:=rfl;have h0:((([a]:List Int).length:Int)==1)=true:=rfl;rw[if_pos h0,hi,Qac,Qac];by_cases h7:a=3
  ·subst h7; rfl
  ·by_cases h8:a=2
   ·subst h8; rfl
   ·have e7:(a==3)=false:=by simpa using h7
    have f8:(([a]:List Int)==[2])=false:=by simpa using h8
    have g7:(([3]:List Int)==[a])=false:=by simpa using fun h:(3:Int)=a=>h7 h.symm
    have g8:(([2]:List Int)==[a])=false:=by simpa using fun h:(2:Int)=a=>h8 h.symm
    simp only[e7,f8,List.find?_cons,g7,g8,List.find?_nil];rfl
 | a::b::r =>
  have e:((((a::b::r).length:Nat):Int)==1)=false:=by rw[beq_eq_false_iff_ne]; simp; omega
  have f:∀ c:Int,([c]==a::b::r)=false:=fun c=>by rw[beq_eq_false_iff_ne]; simp
  have g:(a::b::r==[2])=false:=by rw[beq_eq_false_iff_ne]; simp
  rw[e,if_neg (by simp),Qac,if_neg (by simp),g];simp only[List.find?_cons,f,List.find?_nil];rfl
theorem Qaoe(k:Int):Qis k=some (decide (1≤k∧k≤3)):=by
 rw[Qis,Bool.decide_and];by_cases h:1≤k
 ·rw[decide_eq_true (show k ≥ 1 from h),if_pos rfl,Qac,Bool.true_and]
 ·rw[decide_eq_false (show ¬ k ≥ 1 from h),if_neg (by simp),Qac,Bool.false_and]
theorem Qar8(k:Int):Qw8 k=some (decide (1≤k∧k≤3)):=by
 rw[Qw8];by_cases h1:k=1
 ·subst h1; rfl
 ·by_cases h2:k=2
  ·subst h2; rfl
  ·by_cases h3:k=3
   ·subst h3; rfl
   ·have e1:(k==1)=false:=by simpa using h1
    have e2:(k==2)=false:=by simpa using h2
    have e3:(k==3)=false:=by simpa using h3
    rw[e1,e2,e3,if_neg (by simp),if_neg (by simp),Qac,decide_eq_false (by omega)]
theorem Qatk(L:List Int):Qec [115,97,109,101] L=some (Qzj [115,97,109,101] L):=by
 have h1:Qec [115,97,109,101] L=((if((L.length:Int)==2) then idx L 0>>=fun x=>idx L 1>>=fun y=>if(x==y) then idx L 0>>=fun z=>Qis z>>=fun u=>some u else some false else some false:Option Bool)>>=fun o=>if o then some (3,true) else some (0,false)):=rfl;rw[h1,Qxc _ L [⟨[115,97,109,101],[1,1],3⟩,⟨[115,97,109,101],[2,2],3⟩,⟨[115,97,109,101],[3,3],3⟩] rfl]
 match L with
 | []=>rfl
 | [a] =>
  have f:∀ c:Int,([c,c]==[a])=false:=fun c=>by rw[beq_eq_false_iff_ne]; simp
  simp only[List.find?_cons,f,List.find?_nil];rfl
 | [a,b] =>
  have hi:idx [a,b] 0=some a:=rfl;have hj:idx [a,b] 1=some b:=rfl;have h0:((([a,b]:List Int).length:Int)==2)=true:=rfl;rw[if_pos h0,hi,Qac,hj,Qac,Qac,Qaoe,Qac];by_cases hab:a=b
  ·subst hab;rw[if_pos (by simp),Qac];by_cases h7:a=1
   ·subst h7; rfl
   ·by_cases h8:a=2
    ·subst h8; rfl
    ·by_cases h9:a=3
     ·subst h9; rfl
     ·have f:∀ c:Int,c≠a→([c,c]==[a,a])=false:=fun c hc=>by rw[beq_eq_false_iff_ne]; simpa using hc
      rw[decide_eq_false (by omega)];simp only[List.find?_cons,f 1 (Ne.symm h7),f 2 (Ne.symm h8),f 3 (Ne.symm h9),List.find?_nil];rfl
  ·have f:∀ c:Int,([c,c]==[a,b])=false:=fun c=>by
    rw[beq_eq_false_iff_ne];intro h;have h1:c=a:=by simpa using congrArg (fun l=>l.head?) h
    have h2:c=b:=by
     have:=congrArg (fun l:List Int=>l[1]?) h;simpa using this
    exact hab (h1.symm.trans h2)
   rw[if_neg (by simpa using hab),Qac,if_neg (by simp)];simp only[List.find?_cons,f,List.find?_nil]
 | a::b::d::r =>
  have e:((((a::b::d::r).length:Nat):Int)==2)=false:=by rw[beq_eq_false_iff_ne]; simp; omega
  have f:∀ c:Int,([c,c]==a::b::d::r)=false:=fun c=>by rw[beq_eq_false_iff_ne]; simp
  rw[e,if_neg (by simp),Qac,if_neg (by simp)];simp only[List.find?_cons,f,List.find?_nil]
theorem Qap5(s:Nm)(L:List Int):Qec s L=some (Qzj s L):=by
 by_cases h:s ∈ Qae0
 ·simp only[Qae0,List.mem_cons,List.not_mem_nil,or_false] at h;rcases h with rfl | rfl | rfl | rfl | rfl | rfl | rfl | rfl | rfl | rfl | rfl | rfl | rfl | rfl | rfl | rfl | rfl | rfl | rfl
  ·exact kOne _ 1 [1] L (by decide) rfl rfl
  ·exact kOne _ 1 [1] L (by decide) rfl rfl
  ·exact kOne _ 1 [1] L (by decide) rfl rfl
  ·exact kOne _ 2 [1] L (by decide) rfl rfl
  ·exact kOne _ 1 [1,2] L (by decide) rfl rfl
  ·exact kOne _ 1 [1,2] L (by decide) rfl rfl
  ·exact kOne _ 1 [1,1] L (by decide) rfl rfl
  ·exact kOne _ 1 [1,1] L (by decide) rfl rfl
  ·exact kOne _ 1 [1,1,1] L (by decide) rfl rfl
  ·exact kOne _ 1 [7,1] L (by decide) rfl rfl
  ·exact kOne _ 7 [8] L (by decide) rfl rfl
  ·exact kOne _ 1 [8,1] L (by decide) rfl rfl
  ·exact kOne _ 3 [8,1] L (by decide) rfl rfl
  ·exact kOne _ 2 [2,2] L (by decide) rfl rfl
  ·exact kOne _ 2 [2,2] L (by decide) rfl rfl
  ·exact kOne _ 3 [2,2] L (by decide) rfl rfl
  ·exact kOne _ 3 [3,3] L (by decide) rfl rfl
  ·exact kOne _ 3 [3,3] L (by decide) rfl rfl
  ·exact kOne _ 3 [3] L (by decide) rfl rfl
 ·by_cases hc:s=[99,111,117,110,116]
  ·rw[hc]; exact Qar6 L
  ·by_cases hw:s=[119,114,105,116,101]
   ·rw[hw]; exact Qar7 L
   ·by_cases hs:s=[115,97,109,101]
    ·rw[hs]; exact Qatk L
    ·simp only[Qae0,List.mem_cons,List.not_mem_nil,or_false,not_or] at h;have b:∀ t:Nm,s≠t→(s==t)=false:=fun t ht=>by simpa using ht
     have c:∀ t:Nm,s≠t→(t==s)=false:=fun t ht=>by simpa using fun e=>ht (Eq.symm e)
     obtain⟨a1,a2,a3,a4,a5,a6,a7,a8,a9,a10,a11,a12,a13,a14,a15,a16,a17,a18,a19⟩:=h;have h0:Qyy.filter (·.Name==s)=[]:=by
      simp only[Qyy,List.filter_cons,c _ a1,c _ a2,c _ a3,c _ a4,c _ a5,c _ a6,c _ a7,c _ a8,c _ a9,c _ a10,c _ a11,c _ a12,c _ a13,c _ a14,c _ a15,c _ a16,c _ a17,c _ a18,c _ a19,c _ hc,c _ hw,c _ hs,Bool.false_eq_true,if_false,List.filter_nil]
     rw[Qxc s L [] h0,Qec];simp only[b _ a1,b _ a2,b _ a3,b _ a4,b _ a5,b _ a6,b _ a7,b _ a8,b _ a9,b _ a10,b _ a11,b _ a12,b _ a13,b _ a14,b _ a15,b _ a16,b _ a17,b _ a18,b _ a19,b _ hc,b _ hw,b _ hs,Bool.false_eq_true,if_false,Qac,List.find?_nil]
abbrev Qae1:List Qa7:=[⟨4,[107,101,121],1⟩,⟨4,[118,97,108],1⟩,⟨5,[102,105,114,105,110,103],3⟩,⟨5,[115,116,97,114,116,115],2⟩,⟨5,[118,97,108,117,101],2⟩,⟨5,[108,97,98,101,108,115],8⟩,⟨5,[110,111,116,101,115],8⟩,⟨5,[108,105,110,107],1⟩,⟨6,[114,101,99,101,105,118,101,114],1⟩,⟨6,[102,105,114,105,110,103],3⟩,⟨6,[99,111,109,109,111,110],8⟩,⟨6,[108,105,110,107],1⟩,⟨6,[97,108,101,114,116,115],9⟩]
def fldR(k:Int)(s:Nm):Int×Bool:=match Qae1.find? (fun f=>f.of_==k&&f.name_==s) with | none=>(0,false) | some f=>(f.is_,true)
theorem Qap6(k:Int)(s:Nm)(rs:List Qa7)(h:Qae1.filter (·.of_==k)=rs):fldR k s=match rs.find? (·.name_==s) with | none=>(0,false) | some r=>(r.is_,true):=by
 rw[fldR,← h,List.find?_filter];have e:(fun f:Qa7=>f.of_==k&&f.name_==s)=fun r=>decide ((r.of_==k)=true∧(r.name_==s)=true):=by funext r; rw[Bool.decide_and,Bool.decide_coe,Bool.decide_coe]
 rw[e]
theorem Qatl(k:Int)(s:Nm)(x1:List Qa7)(hx:x1.length≤1000):∀ i,i≤x1.length→Qfn k s x1 i=some (match (x1.drop i).find? (fun f=>f.of_==k&&f.name_==s) with | none =>.inl () | some f =>.inr f.is_):=by
 refine upto ?_ fun i hi ih=>?_
 ·have:decide (((x1.length:Nat):Int)<(x1.length:Int))=false:=decide_eq_false (by omega);rw[Qfn,this,if_neg (by simp),List.drop_length]; rfl
 ·rw[Qfn,ltI,decide_eq_true hi,if_pos rfl,Qcc hi,List.find?_cons,Qa1,getE hi,Qac,Qa3 (show i<9223372036854775807 by omega),ih];rcases Bool.eq_false_or_eq_true (x1[i].of_==k) with hb | hb
  ·rw[hb,if_pos rfl,Qac,Bool.true_and];rcases Bool.eq_false_or_eq_true (x1[i].name_==s) with hc | hc
   ·rw[hc,if_pos rfl]
   ·rw[hc,if_neg (by simp)]
  ·rw[hb,if_neg (by simp),Qac,if_neg (by simp),Bool.false_and]
theorem Qar9(k:Int)(s:Nm):Qmh k s=some (fldR k s):=by
 have h:=Qatl k s Qae1 (by decide) 0 (by omega);rw[show((0:Nat):Int)=0 from rfl,List.drop_zero] at h;have e:Qts=some Qae1:=rfl;rw[Qmh,e,Qac,h,Qac,fldR];cases Qae1.find? (fun f=>f.of_==k&&f.name_==s)<;>rfl
theorem Qatm(s:Nm)(ns:List Nm)(ks:List Int)(hl:ns.length=ks.length)(hx:ns.length≤1000):∀ i,i≤ns.length→Qla s (ns,ks) i=some (match ((ns.zip ks).drop i).find? (·.1==s) with | none =>.inl () | some q =>.inr q.2):=by
 refine upto ?_ fun i hi ih=>?_
 ·have:decide (((ns.length:Nat):Int)<(ns.length:Int))=false:=decide_eq_false (by omega);rw[Qla,this,if_neg (by simp),List.drop_eq_nil_of_le (by simp; omega)]; rfl
 ·have hi' : i<ks.length:=by omega
  have hz:i<(ns.zip ks).length:=by simp; omega
  rw[Qla,ltI,decide_eq_true hi,if_pos rfl,Qcc hz,List.find?_cons,Qa1,getE hi,Qac,Qa3 (show i<9223372036854775807 by omega),ih,List.getElem_zip];rcases Bool.eq_false_or_eq_true (ns[i]==s) with hb | hb
  ·rw[if_pos hb,Qa1,getE hi', Qac,hb]
  ·rw[if_neg (by simp[hb]),hb]
theorem Qanm(k:Int)(s:Nm)(ns:List Nm)(ks:List Int)(hl:ns.length=ks.length)(hx:ns.length≤1000)(h1:Qx4 k=some (ns,ks))(h2:Qae1.filter (·.of_==k)=(ns.zip ks).map fun q=>⟨k,q.1,q.2⟩):Qs7 k s=some (fldR k s):=by
 have h:=Qatm s ns ks hl hx 0 (by omega);rw[show((0:Nat):Int)=0 from rfl,List.drop_zero] at h;rw[Qs7,h1,Qac,h,Qac,Qap6 k s _ h2,List.find?_map];have e:((fun r:Qa7=>r.name_==s) ∘ fun q:Nm×Int=>(⟨k,q.1,q.2⟩:Qa7))=fun q=>q.1==s:=rfl
 rw[e];cases (ns.zip ks).find? (fun q=>q.1==s)<;>rfl
theorem Qasa(k:Int)(s:Nm):Qs7 k s=some (fldR k s):=by
 by_cases h4:k=4
 ·subst h4; exact Qanm 4 s _ _ rfl (by decide) rfl rfl
 ·by_cases h5:k=5
  ·subst h5; exact Qanm 5 s _ _ rfl (by decide) rfl rfl
  ·by_cases h6:k=6
   ·subst h6; exact Qanm 6 s _ _ rfl (by decide) rfl rfl
   ·have e4:(k==4)=false:=by simpa using h4
    have e5:(k==5)=false:=by simpa using h5
    have e6:(k==6)=false:=by simpa using h6
    have f4:((4:Int)==k)=false:=by simpa using fun e=>h4 (Eq.symm e)
    have f5:((5:Int)==k)=false:=by simpa using fun e=>h5 (Eq.symm e)
    have f6:((6:Int)==k)=false:=by simpa using fun e=>h6 (Eq.symm e)
    refine Qanm k s [] [] rfl (by decide) ?_ ?_
    ·rw[Qx4,e4,e5,e6]; rfl
    ·simp only[Qae1,List.filter_cons,f4,f5,f6,Bool.false_eq_true,if_false,List.filter_nil]; rfl
theorem Qatn(k:Int):Qld k=Qz9 k:=rfl
def Q4v(k:Int):Int×Bool:=if k==7 then(1,true) else if k==8 then(4,true) else if k==9 then(5,true) else(0,false)
theorem Qasb(k:Int):Qz9 k=some (Q4v k):=by
 rw[Qz9,Q4v];split
 ·rfl
 ·split
  ·rfl
  ·split<;>rfl
theorem Qap7(k:Int):Q86 k=some (Qzi k):=by
 rw[Q86];by_cases h1:k<1
 ·rw[decide_eq_true h1,if_pos rfl,Qac,if_pos rfl];unfold Qzi;by_cases h0:k<0
  ·rw[if_pos (.inl h0)]
  ·have:k=0:=by omega
   subst this; rfl
 ·by_cases h9:k>9
  ·rw[decide_eq_false h1,if_neg (by simp),decide_eq_true h9,Qac,if_pos rfl,Qzi,if_pos (.inr (by omega))]
  ·rw[decide_eq_false h1,if_neg (by simp),decide_eq_false h9,Qac,if_neg (by simp)];have:k=1∨k=2∨k=3∨k=4∨k=5∨k=6∨k=7∨k=8∨k=9:=by omega
   rcases this with rfl | rfl | rfl | rfl | rfl | rfl | rfl | rfl | rfl<;>(rw[Qg1 (by omega) (by omega)]; rfl)
def bndK(l:List Qak)(s:Nm):Int×Bool:=match l.reverse.find? (·.Name==s) with | none=>(0,false) | some b=>(b.K,!(Qzi b.K==[]))
theorem Qasc(l:List Qak)(s:Nm)(hl:l.length≤1000):∀ k,k≤l.length→Qlb l s ((k:Int)-1)=some (match (l.take k).reverse.find? (·.Name==s) with | none =>.inl () | some b =>.inr (b.K,!(Qzi b.K==[])))
 | 0,_=>by rw[Qlb]; simp
 | k+1,hk=>by
  have e:(((k+1:Nat):Int)-1)=(k:Int):=by omega
  have hp:decide ((k:Int) ≥ 0)=true:=decide_eq_true (by omega);have e2:wr ((k:Int)-1)=(k:Int)-1:=Qg1 (by omega) (by omega);rw[Qlb,e,hp,if_pos rfl,Qa1,getE (show k<l.length by omega),Qac,Qagq l k (by omega),List.find?_cons];rcases Bool.eq_false_or_eq_true (l[k].Name==s) with hb | hb
  ·simp only[hb,if_true,Qac,Qap7]
  ·simp only[hb,Bool.false_eq_true,if_false];rw[e2];exact Qasc l s hl k (by omega)
theorem Qasd(l:List Qak)(s:Nm)(hl:l.length≤1000):Q2w l s=some (bndK l s):=by
 have:=Qasc l s hl l.length (Nat.le_refl _);rw[List.take_length] at this;rw[Q2w,Qg1 (by omega) (by omega),this,bndK,Qac];cases l.reverse.find? (·.Name==s)<;>rfl
theorem Qase(x:Qab)(l:List Qak)(hl:l.length≤1000):∀ k,k≤l.length→Qfm x l ((k:Int)-1)=some (match (l.take k).reverse.find? (·.Name==x.Name) with | none =>.inl () | some b =>.inr (b.K,!(Qzi b.K==[])))
 | 0,_=>by rw[Qfm]; simp
 | k+1,hk=>by
  have e:(((k+1:Nat):Int)-1)=(k:Int):=by omega
  have hp:decide ((k:Int) ≥ 0)=true:=decide_eq_true (by omega);have e2:wr ((k:Int)-1)=(k:Int)-1:=Qg1 (by omega) (by omega);rw[Qfm,e,hp,if_pos rfl,Qa1,getE (show k<l.length by omega),Qac,Qagq l k (by omega),List.find?_cons];rcases Bool.eq_false_or_eq_true (l[k].Name==x.Name) with hb | hb
  ·simp only[hb,if_true,Qxa,Qac]
  ·simp only[hb,Bool.false_eq_true,if_false];rw[e2];exact Qase x l hl k (by omega)
mutual
def kdN:Qab→List Qak→List Nm→Int×Bool
 | ⟨k,s,_,_,a,_,_⟩,l,z=>if k==1 then(1,true) else if k==2 then(2,true) else if k==3 then(3,true) else if k==4 then bndK l s else if k==7 then(if decide (s ∈ z)=true then(1,true) else(0,false)) else
  if k==5||k==6 then(match kdL a l z with | none=>(0,false) | some ks=>if k==6 then Qzj s ks else match ks with | [y]=>fldR y s | _=>(0,false)) else(0,false)
def kdL:List Qab→List Qak→List Nm→Option (List Int)
 | [],_,_=>some []
 | x::r,l,z=>if(kdN x l z).2 then(kdL r l z).map ((kdN x l z).1 :: ·) else none
end
def Qann(x:Qab)(ks:List Int):Int×Bool:=if x.Kind==6 then Qzj x.Name ks else match ks with | [y]=>fldR y x.Name | _=>(0,false)
theorem Qacy(x:Qab)(l:List Qak)(z:List Nm):kdN x l z=if x.Kind==1 then(1,true) else if x.Kind==2 then(2,true) else if x.Kind==3 then(3,true) else if x.Kind==4 then bndK l x.Name else if x.Kind==7 then(if decide (x.Name ∈ z)=true then(1,true) else(0,false)) else
  if x.Kind==5||x.Kind==6 then(match kdL x.L l z with | none=>(0,false) | some ks=>Qann x ks) else(0,false):=by cases x; rw[kdN]; rfl
theorem Qae2:∀ {a:List Qab} {l:List Qak} {z:List Nm} {ks:List Int},kdL a l z=some ks→ks.length=a.length
 | [],_,_,_,h=>by rw[kdL] at h; cases h; rfl
 | x::r,l,z,ks,h=>by
  rw[kdL] at h;split at h
  ·obtain⟨k,hk,rfl⟩:=Option.map_eq_some_iff.1 h;rw[List.length_cons,List.length_cons,Qae2 hk]
  ·cases h
theorem rKdL(x:Qab)(l:List Qak)(z:List Nm)(hx:x.L.length≤1000)(ih:∀ y ∈ x.L,Qw9 y l z=some (kdN y l z)):∀ k,k≤x.L.length→∀ v:List Int,v.length≤k→Qng x l z v k=some (match kdL (x.L.drop k) l z with | none =>.inr () | some ks =>.inl (v++ks)):=by
 refine upto ?_ fun k hk ih2=>?_
 ·intro v _;have:decide (((x.L.length:Nat):Int)<(x.L.length:Int))=false:=decide_eq_false (by omega);rw[Qng,this,if_neg (by simp),List.drop_length,kdL];simp
 ·intro v hv;rw[Qng,ltI,decide_eq_true hk,if_pos rfl,Qcc hk,kdL,Qa1,getE hk,Qac,ih _ (List.getElem_mem hk),Qac];rcases Bool.eq_false_or_eq_true (kdN x.L[k] l z).2 with hb | hb
  ·rw[hb,if_neg (by simp),Qes (by simp; omega) (by simp; omega),Qac,Qa3 (show k<9223372036854775807 by omega),ih2 _ (by simp; omega),if_pos rfl];cases kdL (x.L.drop (k+1)) l z with
   | none=>rfl
   | some ks=>simp
  ·rw[hb,if_pos (by simp),if_neg (by simp)]
theorem cKdL(x:Qab)(l:List Qak)(z:List Nm)(hx:x.L.length≤1000)(ih:∀ y ∈ x.L,Qit y l z=some (kdN y l z)):∀ k,k≤x.L.length→∀ v:List Int,v.length≤k→Qha x l z v k=some (match kdL (x.L.drop k) l z with | none =>.inr () | some ks =>.inl (v++ks)):=by
 refine upto ?_ fun k hk ih2=>?_
 ·intro v _;have:decide (((x.L.length:Nat):Int)<(x.L.length:Int))=false:=decide_eq_false (by omega);rw[Qha,this,if_neg (by simp),List.drop_length,kdL];simp
 ·intro v hv;rw[Qha,ltI,decide_eq_true hk,if_pos rfl,Qcc hk,kdL,Qa1,getE hk,Qac,ih _ (List.getElem_mem hk),Qac];rcases Bool.eq_false_or_eq_true (kdN x.L[k] l z).2 with hb | hb
  ·rw[hb,if_neg (by simp),Qes (by simp; omega) (by simp; omega),Qac,Qa3 (show k<9223372036854775807 by omega),ih2 _ (by simp; omega),if_pos rfl];cases kdL (x.L.drop (k+1)) l z with
   | none=>rfl
   | some ks=>simp
  ·rw[hb,if_pos (by simp),if_neg (by simp)]
theorem Qaof(x:Qab)(o:Option (List Int))(hl:∀ ks,o=some ks→ks.length≤1000){f:Nm→List Int→Option (Int×Bool)}{g:Int→Nm→Option (Int×Bool)}(hf:∀ s L,L.length≤1000→f s L=some (Qzj s L))(hg:∀ k s,g k s=some (fldR k s)) :
  ((some (match o with | none =>.inr () | some ks =>.inl ([]++ks)):Option ((List Int)⊕Unit))>>=fun o4=>match o4 with
   | .inl y5=>if(x.Kind==6) then f x.Name y5>>=fun x10=>some (x10.1,x10.2) else if((y5.length:Int)==1) then idx y5 0>>=fun x11=>g x11 x.Name>>=fun x12=>some (x12.1,x12.2) else some (0,false)
   | .inr _=>some (0,false))=some (match o with | none=>(0,false) | some ks=>Qann x ks):=by
 cases o with
 | none=>rfl
 | some ks =>
  have hk:=hl ks rfl;clear hl;show(if(x.Kind==6) then f x.Name ks>>=fun x10=>some (x10.1,x10.2) else if((ks.length:Int)==1) then idx ks 0>>=fun x11=>g x11 x.Name>>=fun x12=>some (x12.1,x12.2) else some (0,false))=some (Qann x ks);unfold Qann;by_cases h6:(x.Kind==6)=true
  ·rw[if_pos h6,if_pos h6,hf _ _ hk]; rfl
  ·rw[if_neg h6,if_neg h6]
   match ks with
   | []=>rfl
   | [y] =>
    have hi:idx [y] 0=some y:=rfl;have h0:((([y]:List Int).length:Int)==1)=true:=rfl;rw[if_pos h0,hi,Qac,hg]; rfl
   | a::b::r =>
    rw[if_neg (by simp; omega)]
theorem rKd(l:List Qak)(z:List Nm)(hl:l.length≤1000)(hz:z.length≤1000):∀ n (x:Qab),n≤1000→nn x≤n→Qw9 x l z=some (kdN x l z)
 | 0,x,_,h=>by have:=Qhl x; omega
 | n+1,x,hn,h=>by
  have e:=Qhg x;have hlen:=Qfj x.L;have hL:=rKdL x l z (by omega) (fun y hy=>rKd l z hl hz n y (by omega) (by have:=Qek hy; omega)) 0 (by omega) [] (by simp);rw[show((0:Nat):Int)=0 from rfl,List.drop_zero] at hL;have hT:=Qaof x (kdL x.L l z) (fun ks hk=>by rw[Qae2 hk]; omega) (f:=Qz8) (g:=Qs7) (fun s L hL=>Qap4 s L hL) (fun k s=>Qasa k s);rw[Qw9,Qacy,Qasd l _ hl,rIn z _ (by omega),hL];by_cases h1:(x.Kind==1)=true
  ·rw[if_pos h1,if_pos h1]
  ·rw[if_neg h1,if_neg h1];by_cases h2:(x.Kind==2)=true
   ·rw[if_pos h2,if_pos h2]
   ·rw[if_neg h2,if_neg h2];by_cases h3:(x.Kind==3)=true
    ·rw[if_pos h3,if_pos h3]
    ·rw[if_neg h3,if_neg h3];by_cases h4:(x.Kind==4)=true
     ·rw[if_pos h4,if_pos h4]; rfl
     ·rw[if_neg h4,if_neg h4];by_cases h7:(x.Kind==7)=true
      ·rw[if_pos h7,if_pos h7,Qac];split<;>rfl
      ·rw[if_neg h7,if_neg h7];rcases Bool.eq_false_or_eq_true (x.Kind==5) with h5 | h5
       ·rw[h5,if_pos rfl,Qac,if_pos rfl,Bool.true_or,if_pos rfl]; exact hT
       ·rw[h5,if_neg (by simp),Qac,Bool.false_or];by_cases h6:(x.Kind==6)=true
        ·rw[if_pos h6,if_pos h6]; exact hT
        ·rw[if_neg h6,if_neg h6]
theorem cKd(l:List Qak)(z:List Nm)(hl:l.length≤1000)(hz:z.length≤1000):∀ n (x:Qab),n≤1000→nn x≤n→Qit x l z=some (kdN x l z)
 | 0,x,_,h=>by have:=Qhl x; omega
 | n+1,x,hn,h=>by
  have e:=Qhg x;have hlen:=Qfj x.L;have hL:=cKdL x l z (by omega) (fun y hy=>cKd l z hl hz n y (by omega) (by have:=Qek hy; omega)) 0 (by omega) [] (by simp);rw[show((0:Nat):Int)=0 from rfl,List.drop_zero] at hL;have hT:=Qaof x (kdL x.L l z) (fun ks hk=>by rw[Qae2 hk]; omega) (f:=Qec) (g:=Qmh) (fun s L _=>Qap5 s L) (fun k s=>Qar9 k s);have hB:=Qase x l hl l.length (Nat.le_refl _);rw[List.take_length] at hB;rw[Qit,Qacy,Qg1 (by omega) (by omega),hB,Qacr z _ (by omega),hL];by_cases h1:(x.Kind==1)=true
  ·rw[if_pos h1,if_pos h1]
  ·rw[if_neg h1,if_neg h1];by_cases h2:(x.Kind==2)=true
   ·rw[if_pos h2,if_pos h2]
   ·rw[if_neg h2,if_neg h2];by_cases h3:(x.Kind==3)=true
    ·rw[if_pos h3,if_pos h3]
    ·rw[if_neg h3,if_neg h3];by_cases h4:(x.Kind==4)=true
     ·rw[if_pos h4,if_pos h4,bndK,Qac];cases l.reverse.find? (·.Name==x.Name)<;>rfl
     ·rw[if_neg h4,if_neg h4];by_cases h7:(x.Kind==7)=true
      ·rw[if_pos h7,if_pos h7,Qac];split<;>rfl
      ·rw[if_neg h7,if_neg h7];rcases Bool.eq_false_or_eq_true (x.Kind==5) with h5 | h5
       ·rw[h5,if_pos rfl,Qac,if_pos rfl,Bool.true_or,if_pos rfl]; exact hT
       ·rw[h5,if_neg (by simp),Qac,Bool.false_or];by_cases h6:(x.Kind==6)=true
        ·rw[if_pos h6,if_pos h6]; exact hT
        ·rw[if_neg h6,if_neg h6]
theorem Qaln{z y:List Nm}(h:∀ s ∈ z,s ∈ y)(l:List Qak):∀ n (x:Qab),nn x≤n→(kdN x l z).2=true→kdN x l y=kdN x l z
 | 0,x,hn,_=>by have:=Qhl x; omega
 | n+1,x,hn,hk=>by
  have e:=Qhg x;have key:∀ r:List Qab,(∀ u ∈ r,nn u≤n)→∀ ks,kdL r l z=some ks→kdL r l y=some ks:=by
   intro r
   induction r with
   | nil=>intro _ ks h; rw[kdL] at h ⊢; exact h
   | cons u r ih =>
    intro hu ks hs;rw[kdL] at hs;split at hs
    ·rename_i h2;obtain⟨q,hq,rfl⟩:=Option.map_eq_some_iff.1 hs;have e1:=Qaln h l n u (hu u (by simp)) h2;rw[kdL,e1,if_pos h2,ih (fun v hv=>hu v (by simp[hv])) q hq]; rfl
    ·cases hs
  have hL:∀ ks,kdL x.L l z=some ks→kdL x.L l y=some ks:=key x.L (fun u hu=>by have:=Qek hu; omega);rw[Qacy] at hk;rw[Qacy,Qacy];split
  ·rfl
  ·rename_i h1;rw[if_neg h1] at hk;split
   ·rfl
   ·rename_i h2;rw[if_neg h2] at hk;split
    ·rfl
    ·rename_i h3;rw[if_neg h3] at hk;split
     ·rfl
     ·rename_i h4;rw[if_neg h4] at hk;split
      ·rename_i h7;rw[if_pos h7] at hk;split at hk
       ·rename_i hm;have hm' : x.Name ∈ z:=by simpa using hm
        rw[if_pos hm,if_pos (by simpa using h _ hm')]
       ·cases hk
      ·rename_i h7;rw[if_neg h7] at hk;split
       ·rename_i h5;rw[if_pos h5] at hk;cases hq:kdL x.L l z with
        | none=>rw[hq] at hk; cases hk
        | some ks=>rw[hL ks hq]
       ·rfl
end Go.Proofs.YtfgegilhjlnohaaGreat
end
