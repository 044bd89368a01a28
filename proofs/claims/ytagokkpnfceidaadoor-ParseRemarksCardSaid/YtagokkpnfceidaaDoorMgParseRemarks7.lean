/- The proof's texts, part 7 of 11: the walks by a logic in which data are by value, the plain laws, and at the end the law, for every input. -/
import Derived.Test.YtagokkpnfceidaaDoorMgParseRemarks6
import Derived.Recover
import Derived.RecoverIn

section
namespace Go.Proofs.YtagokkpnfceidaaDoor
open Go.RowKit
section
variable {P:Program} {tb:Tbl}
theorem Qv1 (hT:TblOk P tb) {fn:Func} {C:Nat→Nat→Prop} {w w' : World} {G' : Gh} {σ' : St} {a' : Act} (hE:Ex (0,0) ⟨fun b o=>C b o∧b<w.heap.size,[],[]⟩ w G' w') (hR' : Rel fn.ntmps G' σ' a' w') {r:D}
  (hq:resAll tb σ' fn.results.toList fun ds=>match retD ds with | some d=>LeD d r | none=>False) :
  ∃ v,(results fn a'.tmps).run P w' = .ok v w' ∧ DRel ⟨fun b o=>C b o∨w.heap.size≤b,[],[]⟩ w' r v∧Below w.heap.size w w' := by
 obtain⟨ds,us', h1,h2,h3,h4⟩:=Qe7 hT hR' _ _ hq
 split at h4
 ·rename_i d hd
  obtain⟨k1,k2⟩:=Qq3 h2 h3 hd
  refine⟨if h:us'.toArray.size=1 then us'.toArray[0] else .tuple us'.toArray,?_,DRel.le ?_ h4,⟨hE.ext.os,hE.ext.tape,hE.ext.output,hE.ext.size,fun k hk=>hE.ext.old k hk (by simp) (by simp)⟩⟩
  ·unfold results
   rw[Sem.run_bind,Array.mapM_eq_mapM_toList,Sem.run_map]
   erw [h1]
   rfl
  ·have hcom:∀ b o,G'.com b o→C b o∨w.heap.size≤b:=fun b o hc=>by
    rcases hE.ext.new b o hc with h | h | h | ⟨T,h,_⟩
    ·exact .inl h.1
    ·exact .inr h
    ·simp at h
    ·simp at h
   rcases k2 with ⟨x,rfl⟩ | ⟨xs,rfl⟩
   ·generalize (if h:us'.toArray.size=1 then us'.toArray[0] else Value.tuple us'.toArray)=q at k1
    cases k1 with
    | p _ _ k1=>exact .p _ _ (k1.mono (Nat.le_refl _) fun b o u h1 h2=>⟨hcom b o h1,h2⟩)
   ·generalize (if h:us'.toArray.size=1 then us'.toArray[0] else Value.tuple us'.toArray)=q at k1
    cases k1 with
    | tup _ vs l1 l2 =>
     refine .tup _ _ l1 (fun j c u hc hu=>?_)
     have:=l2 j c u hc hu
     rw[List.getElem?_map] at hc
     obtain⟨x,-,rfl⟩:=Option.map_eq_some_iff.1 hc
     cases this with
     | p _ _ k1=>exact .p _ _ (k1.mono (Nat.le_refl _) fun b o u h1 h2=>⟨hcom b o h1,h2⟩)
 ·exact h4.elim
theorem PCall.ofW {f:FuncId} {fn:Func} {c:Code} (hf:P.funcs[f]? = some fn) (hb:fn.body=some c) (hn:isFn P f=true) {args:List V} (hN:args.length≤fn.ntmps) {r:D}
  (h:∀ (C:Nat→Nat→Prop) (w:World) (a:Act) (R:Ending→World→Prop),(∀ v w', DRel ⟨fun b o=>C b o∨w.heap.size≤b,[],[]⟩ w' r v→Below w.heap.size w w' → R (.returned v) w') →
   Rel fn.ntmps ⟨fun b o=>C b o∧b<w.heap.size,[],[]⟩ ⟨args0 args 0,⟨[],[]⟩⟩ a w→a.defers=[]→c.wpIn Fence.wide 0 P (bodyPostM Fence.wide 0 P fn R) a w):PCall P f args r:=by
 refine⟨hn,fun C w us hgl hl hrel=>?_⟩
 have hR:Rel fn.ntmps ⟨fun b o=>C b o∧b<w.heap.size,[],[]⟩ ⟨args0 args 0,⟨[],[]⟩⟩ { tmps:=us++Array.replicate (fn.ntmps-us.size) undef,defers:=[] } w:=by
  refine⟨⟨fun b o h=>⟨h.2,by simp,by simp⟩,rfl,by simp,fun i b cs h=>by simp at h,rfl,fun t T b h=>by simp at h,fun T h=>by simp at h,hgl.mono fun b o u h1 h2=>⟨⟨h1,cellLt h2⟩,h2⟩⟩,fun t d hd=>?_,by simp; omega⟩
  obtain⟨x,h1,h2,rfl⟩:=Qkn args 0 t d hd
  have hlt:t<args.length:=(List.getElem?_eq_some_iff.1 h1).1
  have hlt2:t<us.size:=by omega
  refine⟨by simp; omega,.p x _ (DRel.lt ?_)⟩
  refine hrel t x _ h1 ?_
  simp only[Array.getD_eq_getD_getElem?,Array.getElem?_append_left hlt2,Array.getElem?_eq_getElem hlt2,Option.getD_some]
 exact callsIn_wide.1 (callsIn_of_wp_marks (F:=Fence.wide) (n:=0) hf hb trivial (h C w _ _ (fun v w' h1 h2=>⟨v,rfl,h1,h2⟩) hR rfl))
theorem Ql0 {fn:Func} {a:Act} {G:Gh} {σ : St} {R:Ending→World→Prop} {db:List Deferred} {u:FrameMode} (hu:u ≠ .run) {lo:Nat} {B:Nat×Nat} {G0:Gh} {w0:World}
  (h:∀ w', Ex B G0 w0 G w' → Rel fn.ntmps G σ a w' → LeavesInM Fence.wide 0 P fn a.tmps R db u w') {w:World} (hF:Fr none ⟨lo,db⟩ G a w) (hlo:w0.heap.size≤lo) (hE:Ex B G0 w0 G w) (hR:Rel fn.ntmps G σ a w):LeavesInM Fence.wide 0 P fn a.tmps R a.defers u w:=by
 have key:∀ (Ds:List Nat) (w' : World),Ds.Nodup→Ex B G0 w0 G w' → Rel fn.ntmps G σ a w' → (∀ b ∈ Ds,lo≤b∧w'.heap[b]? = some (.deferred (some []))∧b ∉ G.name∧∀ T ∈ G.tok,¬ T.has b)→LeavesInM Fence.wide 0 P fn a.tmps R (Ds.map markOf++db) u w' := by
  intro Ds
  induction Ds with
  | nil=>exact fun w' _ hE hR' _=>h w' hE hR'
  | cons b Ds ih =>
   intro w' hnd hE hR' hD
   obtain⟨d1,d2,d3,d4⟩:=hD b (by simp)
   have hnb:¬ G.has b:=fun hh=>hh.elim d3 fun⟨T,hT,ht⟩=>d4 T hT ht
   have hk:Kept G.has G.com w' (w'.putObj b (.deferred none)):=Qey _ d2 (Qlc d2) hnb
   refine⟨hu,.inl ⟨b,_,rfl,run_takeDeferred d2,ih _ (List.nodup_cons.1 hnd).2 (hE.kept hk fun i hi=>World.putObj_heap_other (by omega)) (hR'.kept hk) fun i hi=>?_⟩⟩
   obtain⟨k1,k2,k3⟩:=hD i (by simp[hi])
   refine⟨k1,?_,k3⟩
   rw[World.putObj_heap_other (fun(e:i=b)=>(List.nodup_cons.1 hnd).1 (e ▸ hi))]
   exact k2
 obtain⟨Ds,m1,m2,m3⟩:=hF.marks
 have hl:=key Ds w m2 hE hR m3
 rw[← m1] at hl
 exact hl
def isReg (hid:Nat):Code→Bool
 | .region id _ _=>id==hid
 | _=>false
def bwpH (B:Nat×Nat) (P:Program) (tb:Tbl) (N:Nat) (lv:List (Nat×List Nat)) (hid:Nat):Code→(Exit→St→Prop)→(St→Prop)→St→Prop
 | .seq x y,Q,K,σ => match isReg hid x with
  | true=>K σ
  | false=>bwp B P tb N lv x (fun e σ' => match e with | .normal=>bwpH B P tb N lv hid y Q K σ' | e=>Q e σ') σ
 | c,Q,_,σ => bwp B P tb N lv c Q σ
def holeC (hid:Nat):Code→Code
 | .seq x y=>match isReg hid x with
  | true =>.seq x y
  | false=>holeC hid y
 | c=>c
theorem Qxg (hm:P.follows .mixedOrders=true) (hT:TblOk P tb) {B:Nat×Nat} {N:Nat} {lv:List (Nat×List Nat)} {hid:Nat} {Post:Exit→Act→World→Prop} {rd:Option Nat} {lo:Lo} {G0:Gh} {w0:World} {Q:Exit→St→Prop} {K:St→Prop}
  (hQ:∀ e G' σ' a' w', Ex B G0 w0 G' w' → Rel N G' σ' a' w' → Fr rd lo G' a' w' → Q e σ' → Post e a' w') :
  ∀ (c:Code) (σ : St) (G:Gh) (a:Act) (w:World),bwpH B P tb N lv hid c Q K σ → Ex B G0 w0 G w→Rel N G σ a w→Fr rd lo G a w →
   (∀ G' σ' a' w', Ex B G0 w0 G' w' → Rel N G' σ' a' w' → Fr rd lo G' a' w' → K σ' → (holeC hid c).wpIn (FW rd) 0 P Post a' w')→c.wpIn (FW rd) 0 P Post a w:=by
 have base:∀ (c:Code) (σ : St) (G:Gh) (a:Act) (w:World),bwp B P tb N lv c Q σ → Ex B G0 w0 G w→Rel N G σ a w→Fr rd lo G a w→c.wpIn (FW rd) 0 P Post a w:=fun c σ G a w h hE hR hF =>
  wpIn_mono ((Qan hm hT c _ _ h).out rd lo G a w hR hF) fun e a' w' ⟨G', σ', e1,r1,f1,q1⟩=>hQ e G' σ' a' w' (hE.trans e1) r1 f1 q1
 intro c
 induction c with
 | seq x y ihx ihy =>
  intro σ G a w h hE hR hF hK
  unfold bwpH at h
  unfold holeC at hK
  cases hx:isReg hid x with
  | true =>
   rw[hx] at h hK
   exact hK G σ a w hE hR hF h
  | false =>
   rw[hx] at h hK
   refine wpIn_seq (wpIn_mono ((Qan hm hT x _ _ h).out rd lo G a w hR hF) fun e a' w' ⟨G', σ', e1,r1,f1,q1⟩=>?_)
   cases e with
   | normal=>exact ihy σ' G' a' w' q1 (hE.trans e1) r1 f1 hK
   | exit id=>exact hQ _ G' σ' a' w' (hE.trans e1) r1 f1 q1
   | goto l=>exact hQ _ G' σ' a' w' (hE.trans e1) r1 f1 q1
   | ret=>exact hQ _ G' σ' a' w' (hE.trans e1) r1 f1 q1
   | panic ch=>exact hQ _ G' σ' a' w' (hE.trans e1) r1 f1 q1
   | outgrown=>exact hQ _ G' σ' a' w' (hE.trans e1) r1 f1 q1
 | _=>intro σ G a w h hE hR hF hK; exact base _ σ G a w h hE hR hF
theorem Qxh (hT:TblOk P tb) {B:Nat×Nat} {N id:Nat} {ops:Array Oper} {Q:Exit→St→Prop} {σ : St} (h:bwp B P tb N [] (.region id ops false) Q σ) {rd:Option Nat} {G:Gh} {a:Act} {w:World} (hR:Rel N G σ a w) :
  (Code.region id ops false).wpIn (FW rd) 0 P (fun e a' w' => ∃ G' σ', Ex B G w G' w' ∧ Rel N G' σ' a' w' ∧ a'.defers=a.defers∧Q e σ') a w:=by
 have h:rwp P tb N [] id ops false (Q .normal) σ := h
 unfold rwp at h
 rw[Qq2] at h
 have h:bOps true P tb N ops.toList (List.range ops.toList.length) σ fun σ' => Q .normal (keep none σ'):=h
 have hops:ops.toList.toArray=ops:=by simp
 refine wpIn_region ?_
 have:=Qmr hT (rd:=rd) (ops:=ops.toList) (Q:=fun e a' w' => ∃ G' σ', Ex B G w G' w' ∧ Rel N G' σ' a' w' ∧ a'.defers=a.defers∧Q e σ') (G0:=G) (w0:=w) (ds:=a.defers) (fun a' w' G' σ' hE hR' hd hK=>⟨G', _,hE,Qee hR' _,hd,hK⟩) _ σ a w G (.refl B G w) hR rfl h
 rw[hops] at this
 simpa using this
theorem Qmx {G:Gh} {w:World} {a:Act}:EnvRel G w [] a:=fun t d h=>by simp at h
theorem Qcc {G:Gh} {w:World} {a:Act} {t:Nat} {d:D} {env:List (Nat×D)} (h:t<a.tmps.size∧DRel G w d (a.tmps.getD t undef)) (k:EnvRel G w env a):EnvRel G w ((t,d)::env) a:=fun t' d' hl=>by
 rw[List.lookup_cons] at hl
 split at hl
 ·rename_i he
  cases hl
  have:t' = t:=by simpa using he
  subst this
  exact h
 ·exact k t' d' hl
end
end Go.Proofs.YtagokkpnfceidaaDoor
end

section
namespace Go.Proofs.YtagokkpnfceidaaDoor
open Go.RowKit
def lastCode:Code→Code
 | .seq _ y=>lastCode y
 | c=>c
theorem Qur (u0 u1 u2 u3 u4:Value) (w:World) {R:Ending→FrameMode→World→Prop} (h:R (.returned (.tuple #[])) .returning w) :
  CallsDIn Fence.wide 0 Tryd.prog 48 #[u0,u1,u2,u3,u4] .returning w R:=by
 refine callsDIn_of_wpSIn Tryd.func48 rfl trivial fun c₀ cs hu=>?_
 apply wpSIn_seq
 apply wpSIn_region
 simp[wpOpsSIn,go_sem,recoverD,hu,Tryd.ntmps48,Exit.thenS]
 apply wpSIn_seq
 apply wpSIn_seq
 apply wpSIn_region
 simp[wpOpsSIn,go_sem,Exit.thenS]
 refine wpSIn_cond (t:=true) (by simp[Act.eval,Array.replicate]) ?_
 simp only[if_true]
 refine wpSIn_of_wpIn rfl (wpIn_ret ?_)
 cases c₀
 simp_all [bodyPostS,results,Tryd.results48,Exit.thenS]
theorem Q0o (w:World):(Instr.typeAssert (.iface 80 (.agg #[])) 20 80 true).run Tryd.prog w = .ok (.tuple #[.agg #[],.bool true]) w:=by
 kernel_rfl
theorem Qxi (u0 u1 u2 u3 u4:Value) (w:World) {R:Ending→FrameMode→World→Prop}
  (h5:∀ (a:Act) (w' : World),a.tmps.size=22→a.tmps[0]? = some u0→a.tmps[1]? = some u1→a.tmps[2]? = some u2→a.tmps[3]? = some u3→a.tmps[4]? = some u4→a.defers=[]→Below w.heap.size w w' →
   (lastCode (Tryd.f48.body.getD .skip)).wpIn Fence.wide 0 Tryd.prog (fun e a2 w2=>e = .normal∧a2.defers=[]∧R (.returned (.tuple #[])) (.panicking [{ v :=.iface 80 (.agg #[]),recovered:=true }]) w2) a w') :
  CallsDIn Fence.wide 0 Tryd.prog 48 #[u0,u1,u2,u3,u4] (.panicking panCH) w R:=by
 refine callsDIn_of_wpSIn Tryd.func48 rfl trivial fun c₀ cs hu=>?_
 apply wpSIn_seq
 apply wpSIn_region
 simp[wpOpsSIn,go_sem,recoverD,hu,panCH,Tryd.ntmps48,Exit.thenS]
 apply wpSIn_seq
 apply wpSIn_seq
 apply wpSIn_region
 simp[wpOpsSIn,go_sem,Exit.thenS]
 refine wpSIn_cond (t:=false) (by simp[Act.eval,Array.replicate]) ?_
 simp only[Bool.false_eq_true,if_false]
 refine wpSIn_of_wpIn rfl (wpIn_skip ?_)
 simp only[Exit.thenS]
 apply wpSIn_seq
 apply wpSIn_seq
 apply wpSIn_region
 simp[wpOpsSIn,go_sem,Exit.thenS,Q0o]
 apply wpSIn_seq
 apply wpSIn_region
 simp[wpOpsSIn,go_sem,Exit.thenS]
 refine wpSIn_cond (t:=false) (by simp[Act.eval,Array.replicate]) ?_
 simp only[Bool.false_eq_true,if_false]
 refine wpSIn_of_wpIn rfl (wpIn_skip ?_)
 simp only[Exit.thenS]
 refine wpSIn_of_wpIn rfl (wpIn_mono (h5 _ _ ?_ ?_ ?_ ?_ ?_ ?_ rfl ?_) ?_)
 ·simp
 ·simp
 ·simp
 ·simp
 ·simp
 ·simp
 ·exact(Below.refl _ w).alloc (Nat.le_refl _) _
 rintro e a2 w2 ⟨rfl,hd,hr⟩
 refine⟨hd,.panicking [{ v :=.iface 80 (.agg #[]),recovered:=true }],rfl,.tuple #[],?_,hr⟩
 exact results_none rfl _ _ _
def seqR:Code→Code
 | .seq _ y=>y
 | c=>c
theorem Qus (a:Act) (w:World) (hs:a.tmps.size=35) {Post:Exit→Act→World→Prop} (h:(seqR (holeC 5 (Tryd.f22.body.getD .skip))).wpIn Fence.wide 0 Tryd.prog Post
  { tmps:=a.tmps.setIfInBounds 20 (.func (.func 48) #[] #[a.tmps.getD 6 undef,a.tmps.getD 1 undef,a.tmps.getD 2 undef,a.tmps.getD 3 undef,a.tmps.getD 4 undef]),defers:={ target :=.fn (.func 48) #[a.tmps.getD 6 undef,a.tmps.getD 1 undef,a.tmps.getD 2 undef,a.tmps.getD 3 undef,a.tmps.getD 4 undef],args := #[] }::a.defers } w) :
  (holeC 5 (Tryd.f22.body.getD .skip)).wpIn Fence.wide 0 Tryd.prog Post a w:=by
 refine wpIn_seq (wpIn_region ?_)
 obtain⟨X,hX⟩:∃ X,X=seqR (holeC 5 (Tryd.f22.body.getD .skip)):=⟨_,rfl⟩
 rw[← hX] at h
 simp[hs] at h
 rw[hX] at h
 simp[wpOpsIn,go_sem,hs]
 exact h
noncomputable def parQ (r:D) (e:Exit) (τ : St):Prop:=match e with
 | .ret=>resAll tb τ Tryd.f22.results.toList fun ds=>match retD ds with | some d=>LeD d r | none=>False
 | .panic ch=>ch=panCH ∧ τ.env.lookup 2=some (.ptr 1 0) ∧ τ.env.lookup 3=some (.ptr 2 0) ∧ τ.env.lookup 4=some (.ptr 3 0) ∧ τ.s.heap.length=6 ∧ τ.s.live.length=0 ∧
  bwp (6,0) Tryd.prog tb 22 [] (lastCode (Tryd.f48.body.getD .skip)) (fun e υ => e = .normal∧resAll tb ⟨[(2,.ptr 1 0),(3,.ptr 2 0),(4,.ptr 3 0)],υ.s⟩ Tryd.f22.results.toList fun ds=>match retD ds with | some d=>LeD d r | none=>False)
   ⟨[(0,.ptr 5 0),(1,.ptr 0 0),(2,.ptr 1 0),(3,.ptr 2 0),(4,.ptr 3 0)],τ.s⟩
 | _=>False
noncomputable def parK (lv:List (Nat×List Nat)) (r:D) (σ : St):Prop :=
 σ.env.lookup 6=some (.ptr 5 0) ∧ σ.env.lookup 1=some (.ptr 0 0) ∧ σ.env.lookup 2=some (.ptr 1 0) ∧ σ.env.lookup 3=some (.ptr 2 0) ∧ σ.env.lookup 4=some (.ptr 3 0) ∧ σ.s.heap.length=6 ∧ σ.s.live.length=0 ∧
  bwp (6,0) Tryd.prog tb 35 lv (seqR (holeC 5 (Tryd.f22.body.getD .skip))) (parQ r) ⟨[(2,.ptr 1 0),(3,.ptr 2 0),(4,.ptr 3 0),(6,.ptr 5 0)],σ.s⟩
theorem Qys {p0:List UInt8} {r:D} {lv:List (Nat×List Nat)}
  (h:bwpH (0,0) Tryd.prog tb 35 lv 5 (Tryd.f22.body.getD .skip) (retQ tb Tryd.f22.results.toList fun d=>LeD d r) (parK lv r) ⟨args0 [sV p0] 0,⟨[],[]⟩⟩):PCall Tryd.prog 22 [sV p0] r:=by
 refine PCall.ofW Tryd.func22 rfl (by kernel_rfl) (Nat.le_of_ble_eq_true rfl) fun C w a R hRR hR hd=>?_
 refine Qxg (rd:=none) (lo:=⟨w.heap.size,[]⟩) (w0:=w) mixed tbOk (Q:=retQ tb Tryd.f22.results.toList fun d=>LeD d r) (K:=parK lv r) (fun e G' σ' a' w' hE hR' hF' hq=>?_) _ _ _ a w h (.refl _ _ w) hR (.none hd) ?_
 ·have key:∀ (hq:resAll tb σ' Tryd.f22.results.toList fun ds=>match retD ds with | some d=>LeD d r | none=>False),LeavesInM Fence.wide 0 Tryd.prog Tryd.f22 a'.tmps R a'.defers .returning w' := fun hq =>
   Ql0 (u :=.returning) (by simp) (fun w3 hE3 hR3=>by
    obtain⟨v,h1,h2,h3⟩:=Qv1 tbOk hE3 hR3 hq
    exact⟨v,h1,hRR v w3 h2 h3⟩) hF' (Nat.le_refl _) hE hR'
  cases e with
  | normal=>exact key hq
  | ret=>exact key hq
  | _=>exact hq.elim
 ·rintro G1 σ1 a1 w1 hE1 hR1 hF1 ⟨k6,k1,k2,k3,k4,hl,hv,hb⟩
  have v6:=hR1.env 6 _ k6
  have v1:=hR1.env 1 _ k1
  have v2:=hR1.env 2 _ k2
  have v3:=hR1.env 3 _ k3
  have v4:=hR1.env 4 _ k4
  refine Qus a1 w1 hR1.size ?_
  obtain⟨Ds0,m1,m2,m3⟩:=hF1.marks
  rw[List.append_nil] at m1
  rw[m1]
  generalize hu6:a1.tmps.getD 6 undef=u6 at v6 ⊢
  generalize hu1:a1.tmps.getD 1 undef=u1 at v1 ⊢
  generalize hu2:a1.tmps.getD 2 undef=u2 at v2 ⊢
  generalize hu3:a1.tmps.getD 3 undef=u3 at v3 ⊢
  generalize hu4:a1.tmps.getD 4 undef=u4 at v4 ⊢
  have hn1:G1.name.length=6:=hR1.inv.names.trans hl
  have ht1:G1.tok.length=0:=by have:=congrArg List.length hR1.inv.live; simp at this; omega
  obtain⟨d,hdd⟩:∃ d:Deferred,d={ target :=.fn (.func 48) #[u6,u1,u2,u3,u4],args := #[] }:=⟨_,rfl⟩
  rw[← hdd]
  generalize hfv:(Value.func (Fn.func 48) #[] #[u6,u1,u2,u3,u4])=fv
  have ek:∀ t,t≠20→(a1.tmps.setIfInBounds 20 fv).getD t undef=a1.tmps.getD t undef:=fun t ht=>by
   simp only[Array.getD_eq_getD_getElem?,Array.getElem?_setIfInBounds,if_neg (fun e:20=t=>ht e.symm)]
  have es:∀ {t:Nat},t<a1.tmps.size→t<(a1.tmps.setIfInBounds 20 fv).size:=fun h=>by simpa using h
  have hRr:Rel Tryd.f22.ntmps G1 ⟨[(2,.ptr 1 0),(3,.ptr 2 0),(4,.ptr 3 0),(6,.ptr 5 0)],σ1.s⟩ { tmps:=a1.tmps.setIfInBounds 20 fv,defers:=d::Ds0.map markOf } w1 :=
   ⟨hR1.inv,Qcc ⟨es v2.1,by rw[ek 2 (by decide),hu2]; exact v2.2⟩ (Qcc ⟨es v3.1,by rw[ek 3 (by decide),hu3]; exact v3.2⟩ (Qcc ⟨es v4.1,by rw[ek 4 (by decide),hu4]; exact v4.2⟩ (Qcc ⟨es v6.1,by rw[ek 6 (by decide),hu6]; exact v6.2⟩ Qmx))),by simpa using hR1.size⟩
  have hFr:Fr none ⟨w1.heap.size,d::Ds0.map markOf⟩ G1 { tmps:=a1.tmps.setIfInBounds 20 fv,defers:=d::Ds0.map markOf } w1:=⟨⟨[],rfl,List.nodup_nil,fun _ h=>(nomatch h)⟩,fun _ h=>(nomatch h),Nat.le_refl _⟩
  refine wpIn_mono ((Qan mixed tbOk _ _ _ hb).out none ⟨w1.heap.size,d::Ds0.map markOf⟩ G1 _ w1 hRr hFr) ?_
  rintro e a2 w2 ⟨G2,σ2,hE2,hR2,hF2,hq2⟩
  have fin:∀ (G4:Gh) (τ : St) (w4:World),Ex (6,0) G1 w1 G4 w4→Rel Tryd.f22.ntmps G4 τ a2 w4→(resAll tb τ Tryd.f22.results.toList fun ds=>match retD ds with | some d=>LeD d r | none=>False) →
    LeavesInM Fence.wide 0 Tryd.prog Tryd.f22 a2.tmps R (Ds0.map markOf) .returning w4:=fun G4 τ w4 hE4 hR4 hq=>by
   refine Ql0 (a:={ a2 with defers:=Ds0.map markOf }) (lo:=w.heap.size) (db:=[]) (σ := τ) (u :=.returning) (B:=(0,0)) (w0:=w) (by simp) (fun w5 hE5 hR5=>?_) ⟨⟨Ds0,(List.append_nil _).symm,m2,fun b hb=>⟨(m3 b hb).1,hE4.ext.stays (m3 b hb).2.1 (m3 b hb).2.2.1 (m3 b hb).2.2.2⟩⟩,fun _ h=>(nomatch h),Nat.le_trans hF1.size hE4.ext.size⟩ (Nat.le_refl _) (hE1.trans (hE4.le (Nat.zero_le _) (Nat.zero_le _))) ⟨hR4.inv,hR4.env,hR4.size⟩
   obtain⟨v,h1,h2,h3⟩:=Qv1 tbOk hE5 hR5 hq
   exact⟨v,h1,hRR v w5 h2 h3⟩
  have inv0:∀ w3:World,(invoke d.target d.args).run Tryd.prog w3 = .ok (.enter 48 #[u6,u1,u2,u3,u4]) w3:=fun w3=>by subst hdd; simp[go_sem]
  cases e with
  | ret =>
   refine Ql0 (u :=.returning) (B:=(6,0)) (by simp) (fun w3 hE3 hR3=>?_) hF2 (Nat.le_refl _) hE2 hR2
   refine⟨by simp,.inr ⟨fun h=>(nomatch h),_,_,48,#[u6,u1,u2,u3,u4],by rw[hdd],inv0 w3,fun _ _=>trivial,?_⟩⟩
   exact Qur u6 u1 u2 u3 u4 w3 (fin G2 σ2 w3 hE3 hR3 hq2)
  | panic ch =>
   obtain⟨rfl,l2,l3,l4,hl2,hv2,hc⟩:=hq2
   refine Ql0 (u :=.panicking panCH) (B:=(6,0)) (by simp) (fun w3 hE3 hR3=>?_) hF2 (Nat.le_refl _) hE2 hR2
   refine⟨by simp,.inr ⟨fun h=>(nomatch h),_,_,48,#[u6,u1,u2,u3,u4],by rw[hdd],inv0 w3,fun _ _=>trivial,?_⟩⟩
   refine Qxi u6 u1 u2 u3 u4 w3 fun a w' hsz t0 t1 t2 t3 t4 hd' hbel=>?_
   have hI3:=hR3.inv
   have hk3:=Qmu hI3 hbel
   have hEb:Ex (6,0) G2 w3 G2 w' := Qvs hI3 hbel
   have hst:Stp G1 w1 G2 w' := (hE3.trans hEb).stp (by omega) (by omega)
   have hn2:G2.name.length=6:=hI3.names.trans hl2
   have ht2:G2.tok.length=0:=by have:=congrArg List.length hI3.live; simp at this; omega
   have eg:∀ {t:Nat} {u:Value},a.tmps[t]? = some u→a.tmps.getD t undef=u:=fun h=>by simp only[Array.getD_eq_getD_getElem?,h,Option.getD_some]
   have hRc:Rel 22 G2 ⟨[(0,.ptr 5 0),(1,.ptr 0 0),(2,.ptr 1 0),(3,.ptr 2 0),(4,.ptr 3 0)],σ2.s⟩ a w' :=
    ⟨hI3.kept hk3,Qcc ⟨by omega,by rw[eg t0]; exact v6.2.mono hst⟩ (Qcc ⟨by omega,by rw[eg t1]; exact v1.2.mono hst⟩ (Qcc ⟨by omega,by rw[eg t2]; exact v2.2.mono hst⟩ (Qcc ⟨by omega,by rw[eg t3]; exact v3.2.mono hst⟩ (Qcc ⟨by omega,by rw[eg t4]; exact v4.2.mono hst⟩ Qmx)))),hsz⟩
   refine wpIn_mono (Qxh (rd:=none) tbOk hc hRc) ?_
   rintro e a3 w4 ⟨G4,σ4,hE4,hR4,hd4,rfl,hq4⟩
   refine⟨rfl,hd4.trans hd', ?_⟩
   have hE5:Ex (6,0) G2 w3 G4 w4:=hEb.trans hE4
   have hst5:Stp G2 w3 G4 w4:=hE5.stp (by omega) (by omega)
   have x2:=hR3.env 2 _ l2
   have x3:=hR3.env 3 _ l3
   have x4:=hR3.env 4 _ l4
   exact fin G4 ⟨[(2,.ptr 1 0),(3,.ptr 2 0),(4,.ptr 3 0)],σ4.s⟩ w4 (hE3.trans hE5) ⟨hR4.inv,Qcc ⟨x2.1,x2.2.mono hst5⟩ (Qcc ⟨x3.1,x3.2.mono hst5⟩ (Qcc ⟨x4.1,x4.2.mono hst5⟩ Qmx)),hR3.size⟩ hq4
  | _=>exact hq2.elim
end Go.Proofs.YtagokkpnfceidaaDoor
end
