/- Part 6 of 12. -/
import Derived.Test.YtfgegilhjlnohaaGreatMgInferWide5
import Derived.Test.YtfgegilhjlnohaaGreatRows
import Derived.WalkKit
import Derived.WalkSpells
import Derived.RegionTactic
import Derived.ChangeAlike
import Derived.StillTailTactics
import Derived.Deep.QuietTactic
import Derived.BigQuiet
import Derived.Lib.Hide
import Derived.Deep.DeepFit
import Derived.Lib.Strings
import Derived.WalkSmall
import Derived.Shelf.RegionOpenPlain
import Derived.Lib.Walk
import Derived.Lib.Builder
import Derived.Lib.UnsafeStr
import Derived.Laws.Externs
import Derived.Shelf.Small.Bits
import Derived.Shelf.Small.Strs
import Derived.Shelf.Strconv.Itoa0
import Derived.Shelf.Strings.Search1
import Derived.Shelf.Strings.Search2
import Derived.Shelf.Strings.Search3
import Derived.Shelf.LaysM
import Derived.Shelf.Strings.Shaped
import Derived.Shelf.Sort.Plain
import Derived.Shelf.Strings.Prefix
import Derived.Shelf.Slices.Turned
import Derived.Ground.Names2Prog
import Derived.Shelf.Slices.Clone
import Derived.Shelf.Slices.CompactS
import Derived.Shelf.Slices.Delete
import Derived.Shelf.Slices.Cells
import Derived.Shelf.Slices.In.SortNone
import Derived.Shelf.Slices.Empties
import Derived.Ground.SlgnProg
import Derived.Shelf.SlicesE.Delete
import Derived.Shelf.SlicesE.Clone
import Derived.Test.YtfgegilhjlnohaaGreatProg
import Derived.Shelf.Slices.In.SortAlone
import Derived.Shelf.Slices.In.CompactS
import Derived.Sort.EveryDepth

noncomputable section
namespace Go.Proofs.YtfgegilhjlnohaaGreat
open Go.RowKit
set_option linter.unusedSimpArgs false
set_option linter.unusedVariables false
section
variable {P:Program} {tb:Tbl}
def Qai2(P:Program)(c:Call)(e:Operand->Option D)(s:S)(K:D->S->Prop)(KP:List UInt8->S->Prop):Prop :=
 match c.callee with
 | .value f=>match e f,evs e c.args.toList with
  | some (.fn (.func g) first cap),some ds=>(∃ r s', Q8h true P g ((first++ds++cap).map dn) s r s' /\ K r s')\/(∃ z s', CallPan P g ((first++ds++cap).map dn) s z s' /\ KP z s')
  | _,_=>False
 | _=>False
theorem Q9b{rd:Option Nat}{N:Nat}{G:Gh}{σ : St}{a:Act}{w:World}(hR:Rel N G σ a w){o:Oper}{c:Call}(ho:Qbk o.op=some c){e:Operand->Option D}(hev:∀ x d,e x=some d->DRel G w d (a.eval x)){K:D->S->Prop}{KP:List UInt8->S->Prop}(h:Qai2 P c e σ.s K KP)
  {next:Act->World->Prop} {Q:Exit->Act->World->Prop} (hn:∀ u w' G' d s', Stp G w G' w' -> Inv G' s' w' -> DRel G' w' d u->K d s' -> next (a.put o.dst u) w')
  (hp:∀ z w' G' s', Stp G w G' w' -> Inv G' s' w' -> KP z s' -> Q (.panic (Qle z)) a w'):o.wpIn (FW rd) 0 P a w next Q:=by
 have hoc:o.op = .call c:=by
  cases hop:o.op with
  | call c' =>
   rw[hop] at ho;simp only[Qbk] at ho;split at ho
   .cases ho; rfl
   .cases ho
  | _=>rw[hop] at ho; cases ho
 unfold Qai2 at h;split at h
 .rename_i f hc;split at h
  .rename_i g first cap ds hf hds
   rcases h with ⟨r,s', hcall,hK⟩ | ⟨z,s', hcall,hK⟩
   .exact Qxp hR ho hev (gn:=true) (K:=K) (by
     unfold Q5z;rw[hc];simp only[hf,hds];exact⟨r,s', hcall,hK⟩) hn
   .have hfv:∃ us vs,a.eval f = .func (.func g) us vs/\us.size=first.length/\vs.size=cap.length/\(∀ (j:Nat) c u,first[j]? = some c->us[j]? = some u->DRel G w c u)/\(∀ (j:Nat) c u,cap[j]? = some c->vs[j]? = some u->DRel G w c u):=by
     have:=hev f _ hf;generalize a.eval f=q at this;cases this with
     | fn _ _ _ us vs h1 h2 h3 h4=>exact⟨us,vs,rfl,h1.symm,h2.symm,h3,h4⟩
    obtain⟨us,vs,hfv,l1,l2,k1,k2⟩:=hfv;obtain⟨e1,e2⟩:=Qgi hev _ _ hds;have hrun:(execOp a.eval o).run P w = .ok (.enter g (us++c.args.map a.eval++vs)) w:=by
     unfold execOp;simp only[hoc];simp[resolve,hc,hfv,Deferred.ofValue,invoke,Qpw hcall.fn]
    refine Qlf (by rw[hoc]; intro c; simp) ?_;rw[hrun,Oper.uponIn_enter];refine⟨FW_n _,Qtg ?_⟩;refine(hcall.out G w (us++c.args.map a.eval++vs) hR.inv (by simp[l1,l2,e1]) (λj d u hd hu=>?_)).mono λen w' ⟨u,G', he,h1,h2,h3⟩=>?_
    .rw[List.getElem?_map] at hd;obtain⟨d0,hd0,rfl⟩:=Option.map_eq_some_iff.1 hd;refine Qah1 ?_;have hsz:(c.args.map a.eval).size=ds.length:=by simp[e1]
     by_cases hj:j<first.length+ds.length
     .rw[List.getElem?_append_left (by simpa using hj)] at hd0;rw[Array.getElem?_append_left (by simp[l1]; simp at hsz; omega)] at hu;by_cases hj2:j<first.length
      .rw[List.getElem?_append_left hj2] at hd0;rw[Array.getElem?_append_left (by omega)] at hu;exact k1 j d0 u hd0 hu
      .rw[List.getElem?_append_right (by omega)] at hd0;rw[Array.getElem?_append_right (by omega),l1] at hu;exact e2 _ d0 u hd0 (by simpa using hu)
     .rw[List.getElem?_append_right (by simp; omega)] at hd0;rw[Array.getElem?_append_right (by simp[l1]; simp at hsz; omega)] at hu;simp only[List.length_append] at hd0;simp only[Array.size_append,l1,hsz] at hu;exact k2 _ d0 u hd0 hu
    .subst he;exact hp z w' G' s' h1 h2 hK
  .exact h.elim
 .exact h.elim
def pOne(P:Program)(N:Nat)(ops:List Oper)(i:Nat)(σ : St)(K:St->Prop)(KP:List UInt8->St->Prop):Prop :=
 match ops[i]? with
 | none=>K σ
 | some o=>match Qzz ops σ.env o.guard with
  | some true=>match Qbk o.op with
   | some c=>Qai2 P c (ev σ.env) σ.s (λd s' => Qvm (Q8j ops i) d λd=>putE N σ.env o.dst d λenv' => K ⟨env', s'⟩) λz s' => KP z ⟨σ.env,s'⟩
   | none=>False
  | some false=>putE N σ.env o.dst .undef λenv' => K ⟨env', σ.s⟩
  | none=>False
def Q9c(ops:List Oper)(i:Nat):Option (Nat×Operand×Oper):=match ops[i]?,ops[i+1]? with
 | some o,some o2=>match o.op,o2.op,o.dst with
  | .makeInterface t x,.panic (.tmp d),some d' => if d=d' /\ o.guard.isNone=true/\o2.guard.isNone=true then some (t,x,o) else none
  | _,_,_=>none
 | _,_=>none
def isSt(tb:Tbl)(t:Nat):Bool:=match tb.lookup t with
 | some ti=>match ti.d with | .struct _=>true | _=>false
 | none=>false
def Qakw(tb:Tbl)(N:Nat)(ops:List Oper)(i:Nat)(r:List Nat)(t:Nat)(x:Operand)(o:Oper)(σ : St)(KP:List UInt8->St->Prop):Prop :=
 r.head? = some (i+1)/\isSt tb t=true/\(∀ d,o.dst=some d->d<N)/\∃ z,ev σ.env x=some (.p (.agg [.v (Qd1 z)]))/\Qle z=[{ v :=.iface t (.agg #[Qd1 z]),recovered:=false }]/\KP z ⟨[],σ.s⟩
theorem Q9d(hT:TblOk P tb){rd:Option Nat}{N:Nat}{G:Gh}{σ : St}{a:Act}{w:World}(hR:Rel N G σ a w){ops:List Oper}{i t:Nat}{r:List Nat}{x:Operand}{o:Oper}{KP:List UInt8->St->Prop}(hpp:Q9c ops i=some (t,x,o))(h:Qakw tb N ops i r t x o σ KP)
  {Q:Exit->Act->World->Prop} (hp:∀ z a' w' G' σ', Stp G w G' w' -> Rel N G' σ' a' w' -> a'.defers=a.defers->KP z σ' -> Q (.panic (Qle z)) a' w'):wpOpIn (FW rd) 0 P ops.toArray Q i (wpOpsIn (FW rd) 0 P ops.toArray Q r) a w:=by
 obtain⟨hr,hst,hdN,z,hx,hch,hk⟩:=h;unfold Q9c at hpp;split at hpp
 .rename_i o1 o2 ho1 ho2;split at hpp
  .rename_i t' x' d d' e1 e2 e3;split at hpp
   .rename_i hc;obtain⟨rfl,hg1,hg2⟩:=hc;simp only[Option.some.injEq,Prod.mk.injEq] at hpp;obtain⟨rfl,rfl,rfl⟩:=hpp;have hu:∃ fs,P.underlying t' = some (.struct fs):=by
     unfold isSt at hst;split at hst
     .rename_i ti hti;have h2:=hT.und hti;split at hst
      .rename_i fs hd; exact⟨fs,by rw[h2,hd]⟩
      .cases hst
     .cases hst
    obtain⟨fs,hu⟩:=hu;have hv:a.eval x' = .agg #[Qd1 z]:=by
     have:=Qrz hR.env _ _ hx;generalize a.eval x' = u at this;cases this with
     | p _ _ h =>
      cases h with
      | agg _ us h1 h0 h2 =>
       have hs:us.size=1:=h1.symm;have h3:=h2 0 _ us[0] rfl (by simp);have h4:us[0]=Qd1 z:=by
        revert h3;generalize us[0]=q;intro h3;generalize hq:Qd1 z=q2 at h3;cases h3;rfl
       congr 1;apply Array.ext
       .simpa using hs
       .intro j hj1 hj2;have hj0:j=0:=by simp at hj2; omega
        subst hj0;exact h4
    have hg1' : o1.guard=none:=by cases hh:o1.guard with | none=>rfl | some _=>rw[hh] at hg1; cases hg1
    have hg2' : o2.guard=none:=by cases hh:o2.guard with | none=>rfl | some _=>rw[hh] at hg2; cases hg2
    match r,hr with
    | j::r', hr =>
     have hj:j=i+1:=by simpa using hr
     subst hj;unfold wpOpIn;simp only[List.getElem?_toArray,ho1];rw[if_pos (by simp[Region.wanted,hg1'])];refine Qlf (by rw[e1]; intro c; simp) ?_;have hrun:(execOp a.eval o1).run P w = .ok (.value (.iface t' (.agg #[Qd1 z]))) w:=by
      unfold execOp;simp only[e1,hv];simp[Instr.makeInterface,run_underlying hu]
     rw[hrun,Oper.uponIn_value,wpOpsIn_cons];have hd:d<a.tmps.size:=by rw[hR.size]; exact hdN d e3
     unfold wpOpIn;simp only[List.getElem?_toArray,ho2];rw[if_pos (by simp[Region.wanted,hg2'])];refine Qlf (by rw[e2]; intro c; simp) ?_;have hrun2:(execOp (a.put o1.dst (.iface t' (.agg #[Qd1 z]))).eval o2).run P w = .halt (.panic (.iface t' (.agg #[Qd1 z]))) w:=by
      unfold execOp;simp only[e2,e3];simp[Act.put,Act.eval,hd,Instr.panic,goPanic,go_sem]
     rw[hrun2,Oper.uponIn_panic,<-hch];exact hp z _ w G ⟨[],σ.s⟩ (.refl G w) ⟨hR.inv,λt d hl=>by simp at hl,by simpa [e3,Act.put] using hR.size⟩ (Qct _ _ _) hk
   .cases hpp
  .cases hpp
 .cases hpp
def pOps(pk mk:List Nat)(P:Program)(tb:Tbl)(N:Nat)(ops:List Oper)(KP:List UInt8->St->Prop):List Nat->St->(St->Prop)->Prop
 | [],σ,K=>K σ
 | i::r,σ,K=>match pk.contains i with
  | true=>match Q9c ops i with
   | some (t,x,o)=>Qakw tb N ops i r t x o σ KP
   | none=>pOne P N ops i σ (λσ' => pOps pk mk P tb N ops KP r σ' K) KP
  | false=>match Qaec mk i with
   | some hm=>xOne tb N ops i hm σ λσ' => pOps pk mk P tb N ops KP r σ' K
   | none=>bOne true P tb N ops i σ λσ' => pOps pk mk P tb N ops KP r σ' K
theorem Q11{rd:Option Nat}{N:Nat}{G:Gh}{σ : St}{a:Act}{w:World}(hR:Rel N G σ a w){ops:List Oper}{i:Nat}{K:St->Prop}{KP:List UInt8->St->Prop}(h:pOne P N ops i σ K KP)
  {next:Act->World->Prop} {Q:Exit->Act->World->Prop} (hn:∀ a' w' G' σ', Stp G w G' w' -> Rel N G' σ' a' w' -> a'.defers=a.defers->K σ' -> next a' w')
  (hp:∀ z w' G' σ', Stp G w G' w' -> Rel N G' σ' a w' -> KP z σ' -> Q (.panic (Qle z)) a w'):wpOpIn (FW rd) 0 P ops.toArray Q i next a w:=by
 unfold pOne at h;unfold wpOpIn;split at h
 .rename_i ho;simp only[List.getElem?_toArray,ho];exact hn a w G σ (.refl G w) hR rfl h
 .rename_i o ho;simp only[List.getElem?_toArray,ho];split at h
  .rename_i hw;rw[if_pos (Qjl hR ops o true hw)];split at h
   .rename_i c hc;refine Q9b hR hc (Qrz hR.env) h (λu w' G' d s' r1 r2 r3 r4=>?_) (λz w' G' s' s1 i1 k1=>hp z w' G' ⟨σ.env,s'⟩ s1 ⟨i1,hR.env.mono s1,hR.size⟩ k1);obtain⟨env', q1,q2⟩:=Qky hR r1 r2 r3 (Qsg r4);exact hn _ _ _ _ r1 q1 (Qct _ _ _) q2
   .exact h.elim
  .rename_i hw;rw[if_neg (by rw[Qjl hR ops o false hw]; simp)];refine⟨λf _=>Q50 _ _,?_⟩;obtain⟨env', q1,q2⟩:=Qky hR (.refl G w) hR.inv .undef h;exact hn _ _ _ _ (.refl G w) q1 (Qct _ _ _) q2
  .exact h.elim
theorem Qq7(hT:TblOk P tb){rd:Option Nat}{pk mk:List Nat}{N:Nat}{ops:List Oper}{Q:Exit->Act->World->Prop}{K:St->Prop}{KP:List UInt8->St->Prop}{B:Nat×Nat}{G0:Gh}{w0:World}{ds:List Deferred}(hQ:∀ a w G σ,Ex B G0 w0 G w->Rel N G σ a w->a.defers=ds->K σ -> Q .normal a w)
  (hP:∀ z (a:Act) w G σ,Ex B G0 w0 G w->Rel N G σ a w->a.defers=ds->KP z σ -> Q (.panic (Qle z)) a w) :
  ∀ (l:List Nat) (σ : St) (a:Act) (w:World) (G:Gh),Ex B G0 w0 G w->Rel N G σ a w->a.defers=ds->pOps pk mk P tb N ops KP l σ K->wpOpsIn (FW rd) 0 P ops.toArray Q l a w
 | [],σ,a,w,G,hE,hR,hd,h=>hQ a w G σ hE hR hd h
 | i::r,σ,a,w,G,hE,hR,hd,h=>by
  rw[wpOpsIn_cons];unfold pOps at h;split at h
  .split at h
   .rename_i hpp;exact Q9d hT hR hpp h λz a' w' G' σ' s1 r1 d1 k1=>hP z a' w' G' σ' (hE.trans (s1.ex B)) r1 (d1.trans hd) k1
   .exact Q11 hR h (λa' w' G' σ' s1 r1 d1 h1=>Qq7 hT hQ hP r σ' a' w' G' (hE.trans (s1.ex B)) r1 (d1.trans hd) h1) λz w' G' σ' s1 i1 k1=>hP z a w' G' σ' (hE.trans (s1.ex B)) i1 hd k1
  .split at h
   .exact Qq5 hT hR h λa' w' G' σ' s1 r1 d1 h1=>Qq7 hT hQ hP r σ' a' w' G' (hE.trans (s1.ex B)) r1 (d1.trans hd) h1
   .exact Qhc hT hR h λa' w' G' σ' s1 r1 d1 h1=>Qq7 hT hQ hP r σ' a' w' G' (hE.trans (s1.ex B)) r1 (d1.trans hd) h1
inductive PT where
 | nil
 | pan (i:Nat) (r:PT)
 | op (i:Nat) (sub r:PT)
def PT.heads:PT->List Nat
 | .nil=>[]
 | .pan i r=>i::r.heads
 | .op i _ r=>i::r.heads
def ptAt(ops:Array Oper)(hs:List Nat)(L:Array Bool):Bool := !(Region.ready .any ops L).isEmpty&&(Region.ready .any ops L).all λx=>hs.contains x
def ptOk(ops:Array Oper):PT->Array Bool->Nat->Bool
 | .nil,_,_=>true
 | .pan _ r,L,k=>ptOk ops r L k
 | .op i sub r,L,k=>(match k with
  | 0=>false
  | k' + 1=>ptAt ops sub.heads (L.setIfInBounds i true)&&ptOk ops sub (L.setIfInBounds i true) k')&&ptOk ops r L k
def Qakx(ops:Array Oper)(t:PT):Bool:=match ops.size with
 | 0=>false
 | k+1=>ptAt ops t.heads (Array.replicate ops.size false)&&ptOk ops t (Array.replicate ops.size false) k
def panT(P:Program)(tb:Tbl)(N:Nat)(ops:List Oper)(KP:List UInt8->St->Prop):PT->St->Prop
 | .nil,_=>True
 | .pan i r,σ => pOne P N ops i σ (λ_=>False) KP/\panT P tb N ops KP r σ
 | .op i sub r,σ => bOne true P tb N ops i σ (λσ' => panT P tb N ops KP sub σ')/\panT P tb N ops KP r σ
theorem Q3c{rd:Option Nat}{ops:Array Oper}{hs:List Nat}{L:Array Bool}(h:ptAt ops hs L=true){Q:Exit->Act->World->Prop}{k:Nat}{a:Act}{w:World}
  (hx:∀ x ∈ hs,wpOpIn (FW rd) 0 P ops Q x (wpAnyIn (FW rd) 0 P .any ops Q k (L.setIfInBounds x true)) a w):wpAnyIn (FW rd) 0 P .any ops Q (k+1) L a w:=by
 unfold ptAt at h;rw[Bool.and_eq_true,List.all_eq_true] at h;refine⟨λhr=>?_,λx hm=>hx x ?_⟩
 .rw[hr] at h; cases h.1
 .have:=h.2 x hm;simpa using this
theorem Qacj(hT:TblOk P tb){rd:Option Nat}{N:Nat}{ops:List Oper}{Q:Exit->Act->World->Prop}{KP:List UInt8->St->Prop}{B:Nat×Nat}{G0:Gh}{w0:World}{ds:List Deferred}
  (hP:∀ z (a:Act) w G σ,Ex B G0 w0 G w->Rel N G σ a w->a.defers=ds->KP z σ -> Q (.panic (Qle z)) a w) :
  ∀ (t:PT) (k:Nat) (L:Array Bool) (σ : St) (a:Act) (w:World) (G:Gh),ptOk ops.toArray t L k=true->Ex B G0 w0 G w->Rel N G σ a w->a.defers=ds->panT P tb N ops KP t σ ->
   ∀ x ∈ t.heads,wpOpIn (FW rd) 0 P ops.toArray Q x (wpAnyIn (FW rd) 0 P .any ops.toArray Q k (L.setIfInBounds x true)) a w:=by
 intro t
 induction t with
 | nil=>intro k L σ a w G _ _ _ _ _ x hx; cases hx
 | pan i r ih =>
  intro k L σ a w G hk hE hR hd h x hx;rcases List.mem_cons.1 hx with rfl | hx
  .exact Q11 hR h.1 (λ_ _ _ _ _ _ _ hk=>hk.elim) λz w' G' σ' s1 i1 k1=>hP z a w' G' σ' (hE.trans (s1.ex B)) i1 hd k1
  .exact ih k L σ a w G hk hE hR hd h.2 x hx
 | op i sub r ihs ihr =>
  intro k L σ a w G hk hE hR hd h x hx;unfold ptOk at hk;rw[Bool.and_eq_true] at hk;rcases List.mem_cons.1 hx with rfl | hx
  .cases k with
   | zero=>cases hk.1
   | succ k =>
    have hk1:=hk.1;simp only[Bool.and_eq_true] at hk1;exact Qhc hT hR h.1 λa' w' G' σ' s1 r1 d1 h1=>Q3c hk1.1 λy hy=>ihs k _ σ' a' w' G' hk1.2 (hE.trans (s1.ex B)) r1 (d1.trans hd) h1 y hy
  .exact ihr k L σ a w G hk.2 hE hR hd h.2 x hx
def Qack(ops:Array Oper):Bool->PT->Array Bool->Nat->Bool
 | b,.nil,L,_ => !b||(Region.ready .any ops L).isEmpty
 | _,.pan _ _,_,_=>false
 | b,.op i sub r,L,k=>(!b||ptAt ops (i::r.heads) L)&&(match k with
  | 0=>false
  | k' + 1=>Qack ops true sub (L.setIfInBounds i true) k')&&Qack ops false r L k
def allT(P:Program)(tb:Tbl)(N:Nat)(ops:List Oper)(leaf:St->Prop):Bool->PT->St->Prop
 | b,.nil,σ => match b with
  | true=>leaf σ
  | false=>True
 | _,.pan _ _,_=>False
 | _,.op i sub r,σ => bOne true P tb N ops i σ (λσ' => allT P tb N ops leaf true sub σ')/\allT P tb N ops leaf false r σ
theorem Qacl(hT:TblOk P tb){rd:Option Nat}{N:Nat}{ops:List Oper}{Q:Exit->Act->World->Prop}{leaf:St->Prop}{B:Nat×Nat}{G0:Gh}{w0:World}{ds:List Deferred}
  (hQ:∀ a w G σ,Ex B G0 w0 G w->Rel N G σ a w->a.defers=ds->leaf σ -> Q .normal a w) :
  ∀ (t:PT) (b:Bool) (k:Nat) (L:Array Bool) (σ : St) (a:Act) (w:World) (G:Gh),Qack ops.toArray b t L k=true->Ex B G0 w0 G w->Rel N G σ a w->a.defers=ds->allT P tb N ops leaf b t σ ->
   (b=true->wpAnyIn (FW rd) 0 P .any ops.toArray Q k L a w)/\∀ k', k=k' + 1->∀ x ∈ t.heads,wpOpIn (FW rd) 0 P ops.toArray Q x (wpAnyIn (FW rd) 0 P .any ops.toArray Q k' (L.setIfInBounds x true)) a w:=by
 intro t
 induction t with
 | nil =>
  intro b k L σ a w G hk hE hR hd h;refine⟨λhb=>?_,λk' _ x hx=>by cases hx⟩;subst hb;have hn:Region.ready .any ops.toArray L=[]:=by
   unfold Qack at hk;simpa using hk
  have hq:=hQ a w G σ hE hR hd h;cases k with
  | zero=>exact⟨hn,hq⟩
  | succ k=>exact⟨λ_=>hq,λx hx=>by rw[hn] at hx; cases hx⟩
 | pan i r ih =>
  intro b k L σ a w G hk hE hR hd h;exact h.elim
 | op i sub r ihs ihr =>
  intro b k L σ a w G hk hE hR hd h;unfold Qack at hk;rw[Bool.and_eq_true,Bool.and_eq_true] at hk;obtain⟨⟨hk1,hk2⟩,hk3⟩:=hk;have h1:bOne true P tb N ops i σ (λσ' => allT P tb N ops leaf true sub σ'):=h.1;have h2:allT P tb N ops leaf false r σ := h.2;cases k with
  | zero=>cases hk2
  | succ k =>
   have hx:∀ k', k+1=k' + 1->∀ x ∈ (PT.op i sub r).heads,wpOpIn (FW rd) 0 P ops.toArray Q x (wpAnyIn (FW rd) 0 P .any ops.toArray Q k' (L.setIfInBounds x true)) a w:=by
    intro k' hk' x hx;obtain rfl:k=k' := by omega
    rcases List.mem_cons.1 hx with rfl | hx
    .exact Qhc hT hR h1 λa' w' G' σ' s1 r1 d1 h1=>(ihs true k _ σ' a' w' G' hk2 (hE.trans (s1.ex B)) r1 (d1.trans hd) h1).1 rfl
    .exact(ihr false (k+1) L σ a w G hk3 hE hR hd h2).2 k rfl x hx
   refine⟨λhb=>?_,hx⟩;subst hb;exact Q3c (hs:=(PT.op i sub r).heads) (by simpa [PT.heads] using hk1) λx hxx=>hx k rfl x hxx
end
section
variable {P:Program} {tb:Tbl}
def Q3d(ops:List Oper)(j:Nat):Bool :=
 Nat.ble j ops.length&&(List.range (ops.length-j)).all λd=>match ops[j+d]? with
  | some o=>o.after.toList.all (λe => !Region.binds .any e||decide (e.on<j+d)) &&
   ((List.range j).all (λx=>((Qoy ops []).getD (j+d) []).contains x)&&(d==0||o.after.toList.any λe=>Region.binds .any e&&e.on==j+d-1))
  | none=>false
theorem Qag4{o:Oper}{x:Nat}(h:(o.after.toList.any λe=>Region.binds .any e&&e.on==x)=true):∃ e ∈ o.after,Region.binds .any e=true/\e.on=x:=by
 rw[List.any_eq_true] at h;obtain⟨e,he,hb⟩:=h;rw[Bool.and_eq_true,beq_iff_eq] at hb;exact⟨e,by simpa using he,hb.1,hb.2⟩
theorem Qvo{ops:List Oper}{j:Nat}(h:Q3d ops j=true):j<=ops.length/\∀ i o,j<=i->ops[i]? = some o->(∀ e ∈ o.after,Region.binds .any e=true->e.on<i)/\(∀ x,x<j->Reach ops x i)/\(j<i->∃ e ∈ o.after,Region.binds .any e=true/\e.on=i-1):=by
 unfold Q3d at h;rw[Bool.and_eq_true,List.all_eq_true] at h;refine⟨Nat.le_of_ble_eq_true h.1,λi o hi ho=>?_⟩;have hil:i<ops.length:=(List.getElem?_eq_some_iff.1 ho).1;have:=h.2 (i-j) (List.mem_range.2 (by omega));rw[show j+(i-j)=i by omega,ho] at this;simp only[Bool.and_eq_true,List.all_eq_true,Bool.or_eq_true,decide_eq_true_eq,Bool.not_eq_true', List.mem_range,beq_iff_eq,List.contains_iff_mem] at this;obtain⟨h1,h2,h3⟩:=this;refine⟨λe he hb=>?_,λx hx=>?_,λhji=>?_⟩
 .rcases h1 e (by simpa using he) with k | k
  .rw[hb] at k; cases k
  .exact k
 .have hx:=h2 x hx;cases hq:(Qoy ops [])[i]? with
  | none=>simp[List.getD,hq] at hx
  | some l =>
   simp[List.getD,hq] at hx;exact Qin ops [] [] rfl rfl (λi l a h=>by simp at h) i l x hq hx
 .rcases h3 with k | k
  .omega
  .exact Qag4 k
theorem Qacm(hT:TblOk P tb){rd:Option Nat}{mk:List Nat}{N:Nat}{ops:List Oper}{j:Nat}(ht:Q3d ops j=true){Q:Exit->Act->World->Prop}{K:St->Prop}{B:Nat×Nat}{G0:Gh}{w0:World}{ds:List Deferred}(hQ:∀ a w G σ,Ex B G0 w0 G w->Rel N G σ a w->a.defers=ds->K σ -> Q .normal a w) :
  ∀ (k i:Nat),j<=i->i+k=ops.length->∀ (L:Array Bool) (σ : St) (a:Act) (w:World) (G:Gh),L.size=ops.length->(∀ x,x<i->L.getD x true=true)->(∀ x,i<=x->x<ops.length->L.getD x true=false)->Ex B G0 w0 G w->Rel N G σ a w->a.defers=ds ->
   xOps mk P tb N ops (List.range' i k) σ K->wpAnyIn (FW rd) 0 P .any ops.toArray Q k L a w:=by
 obtain⟨hj,hsp⟩:=Qvo ht;intro k
 induction k with
 | zero =>
  intro i hji hik L σ a w G hs h1 h2 hE hR hd h;refine⟨?_,hQ a w G σ hE hR hd h⟩;apply List.eq_nil_iff_forall_not_mem.2;intro x hx;obtain⟨g1,o,ho,-⟩:=mem_ready.1 hx;have hxl:x<ops.length:=by have:=(Array.getElem?_eq_some_iff.1 ho).1; simpa using this
  have g2:=h1 x (by omega);have hxs:x<L.size:=by omega
  simp only[Array.getD_eq_getD_getElem?,Array.getElem?_eq_getElem hxs,Option.getD_some] at g1 g2;rw[g1] at g2; cases g2
 | succ k ih =>
  intro i hji hik L σ a w G hs h1 h2 hE hR hd h;have hil:i<ops.length:=by omega
  have ho:ops[i]? = some ops[i]:=List.getElem?_eq_getElem hil;have his:i<L.size:=by omega
  have flip:∀ x,x<L.size->∀ b,L.getD x true=b->L.getD x false=b:=λx hx b hb=>by
   simp only[Array.getD_eq_getD_getElem?,Array.getElem?_eq_getElem hx,Option.getD_some] at hb ⊢;exact hb
  refine⟨λhr=>?_,λx hx=>?_⟩
  .exfalso;have:i ∈ Region.ready .any ops.toArray L:=by
    refine mem_ready.2 ⟨h2 i (Nat.le_refl _) hil,ops[i],by simp,λe he hb=>?_⟩;have:=(hsp i _ hji ho).1 e he hb;exact flip _ (by omega) _ (h1 _ this)
   rw[hr] at this; cases this
  .obtain⟨g1,o,hox,hb⟩:=mem_ready.1 hx;have hox' : ops[x]? = some o:=by simpa using hox
   have hxl:x<ops.length:=(List.getElem?_eq_some_iff.1 hox').1;have hxi:x=i:=by
    by_cases hlt:x<i
    .rw[h1 x hlt] at g1; cases g1
    .by_cases hgt:i<x
     .exfalso;obtain⟨e,he,hb1,hb2⟩:=(hsp x o (by omega) hox').2.2 (by omega);have:=hb e he hb1;rw[hb2,flip (x-1) (by omega) _ (h2 (x-1) (by omega) (by omega))] at this;cases this
     .omega
   subst hxi;have hnext:∀ a' w' G' σ', Stp G w G' w' -> Rel N G' σ' a' w' -> a'.defers=a.defers->xOps mk P tb N ops (List.range' (x+1) k) σ' K->wpAnyIn (FW rd) 0 P .any ops.toArray Q k (L.setIfInBounds x true) a' w' := λa' w' G' σ' s1 r1 d1 hk=>by
    refine ih (x+1) (by omega) (by omega) _ σ' a' w' G' (by simpa using hs) (λy hy=>?_) (λy hy hyl=>?_) (hE.trans (s1.ex B)) r1 (d1.trans hd) hk
    .by_cases hyx:y=x
     .subst hyx;simp[Array.getD_eq_getD_getElem?,his]
     .have:=h1 y (by omega);simp only[Array.getD_eq_getD_getElem?,Array.getElem?_setIfInBounds,if_neg (λe:x=y=>hyx e.symm)] at this ⊢;exact this
    .have:=h2 y (by omega) hyl;simp only[Array.getD_eq_getD_getElem?,Array.getElem?_setIfInBounds,if_neg (show ¬ x=y by omega)] at this ⊢;exact this
   rw[List.range'_succ] at h;unfold xOps at h;split at h
   .split at h
    .exact Q1w hR h hnext
    .exact Qq5 hT hR h hnext
   .exact Qhc hT hR h hnext
end
theorem TblOk.nil(P:Program):TblOk P []:=λt ti h=>by cases h
theorem TblOk.cons{P:Program}(t:Nat)(ti:TI)(l:Tbl)(h:P.underlying t=some ti.d)(hi:(P.info? t).map (λi=>(i.size,i.bytes,i.zero))=some (ti.size,ti.bytes,some ti.zero))(hc:ti.cmp=true->Qagg P t=true)(hbl:∀ q ∈ ti.bld,q.2.2<ti.zero.cells.size/\liesAt q.1 q.1.depth t (ti.zero.cells.size / q.1.cellsOf t) q.2.2 q.2.1 1=true)(hl:TblOk P l):TblOk P ((t,ti)::l):=by
 intro t' ti' h';rw[List.lookup_cons] at h';by_cases ht:t' = t
 .subst ht;simp only[beq_self_eq_true,Option.some.injEq] at h';subst h';obtain⟨i,h1,h2⟩:=Option.map_eq_some_iff.1 hi;simp only[Prod.mk.injEq] at h2;exact⟨h,i,h1,h2.1,h2.2.1,h2.2.2,hc,hbl⟩
 .have hb:(t' == t)=false:=by simpa using ht
  rw[hb] at h';exact hl t' ti' h'
def tb:Tbl:=[(1,⟨.func #[] #[] false,1,8,.nilFunc,false,[]⟩),
 (3,⟨.int .i64,1,8,.int .i64 0,false,[]⟩),
 (4,⟨.bool,1,1,.bool false,false,[]⟩),
 (5,⟨.int .u8,1,1,.int .u8 0,false,[]⟩),
 (9,⟨.string,1,16,.string ByteArray.empty,false,[]⟩),
 (21,⟨.int .i32,1,4,.int .i32 0,false,[]⟩),
 (22,⟨.slice 56,1,24,.slice none 0 0,false,[]⟩),
 (24,⟨.int .i64,1,8,.int .i64 0,false,[]⟩),
 (29,⟨.slice 9,1,24,.slice none 0 0,false,[]⟩),
 (35,⟨.int .i64,1,8,.int .i64 0,false,[]⟩),
 (36,⟨.slice 38,1,24,.slice none 0 0,false,[]⟩),
 (37,⟨.struct #[⟨ "Kind",35,0,false, "", "",0⟩,⟨ "Name",9,1,false, "", "",8⟩,⟨ "Text",9,2,false, "", "",24⟩,⟨ "N",3,3,false, "", "",40⟩,⟨ "L",36,4,false, "", "",48⟩,⟨ "Then",36,5,false, "", "",72⟩,⟨ "Else",36,6,false, "", "",96⟩],7,120,.agg #[.int .i64 0,.string ByteArray.empty,.string ByteArray.empty,.int .i64 0,.slice none 0 0,.slice none 0 0,.slice none 0 0],false,[]⟩),
 (38,⟨.struct #[⟨ "Kind",35,0,false, "", "",0⟩,⟨ "Name",9,1,false, "", "",8⟩,⟨ "Text",9,2,false, "", "",24⟩,⟨ "N",3,3,false, "", "",40⟩,⟨ "L",36,4,false, "", "",48⟩,⟨ "Then",36,5,false, "", "",72⟩,⟨ "Else",36,6,false, "", "",96⟩],7,120,.agg #[.int .i64 0,.string ByteArray.empty,.string ByteArray.empty,.int .i64 0,.slice none 0 0,.slice none 0 0,.slice none 0 0],false,[]⟩),
 (39,⟨.slice 46,1,24,.slice none 0 0,false,[]⟩),
 (43,⟨.int .u64,1,8,.int .u64 0,false,[]⟩),
 (44,⟨.int .i64,1,8,.int .i64 0,false,[]⟩),
 (45,⟨.struct #[⟨ "Name",9,0,false, "", "",0⟩,⟨ "K",44,1,false, "", "",16⟩,⟨ "Secret",4,2,false, "", "",24⟩],3,32,.agg #[.string ByteArray.empty,.int .i64 0,.bool false],false,[]⟩),
 (46,⟨.struct #[⟨ "Name",9,0,false, "", "",0⟩,⟨ "K",44,1,false, "", "",16⟩,⟨ "Secret",4,2,false, "", "",24⟩],3,32,.agg #[.string ByteArray.empty,.int .i64 0,.bool false],true,[]⟩),
 (55,⟨.struct #[⟨ "Name",9,0,false, "", "",0⟩,⟨ "L",36,1,false, "", "",16⟩],2,40,.agg #[.string ByteArray.empty,.slice none 0 0],false,[]⟩),
 (56,⟨.struct #[⟨ "Name",9,0,false, "", "",0⟩,⟨ "L",36,1,false, "", "",16⟩],2,40,.agg #[.string ByteArray.empty,.slice none 0 0],false,[]⟩),
 (57,⟨.slice 5,1,24,.slice none 0 0,false,[]⟩),
 (65,⟨.map 9 29,1,8,.map none,false,[]⟩),
 (66,⟨.struct #[⟨ "to",65,0,false, "", "nuncio/calls",0⟩],1,8,.agg #[.map none],false,[]⟩),
 (67,⟨.struct #[⟨ "to",65,0,false, "", "nuncio/calls",0⟩],1,8,.agg #[.map none],false,[]⟩),
 (78,⟨.func #[38] #[4] false,1,8,.nilFunc,false,[]⟩),
 (87,⟨.struct #[⟨ "name",9,0,false, "", "nuncio/infer",0⟩],1,16,.agg #[.string ByteArray.empty],false,[]⟩),
 (88,⟨.struct #[⟨ "name",9,0,false, "", "nuncio/infer",0⟩],1,16,.agg #[.string ByteArray.empty],true,[]⟩),
 (90,⟨.pointer 93,1,8,.pointer none,false,[]⟩),
 (91,⟨.map 119 3,1,8,.map none,false,[]⟩),
 (92,⟨.struct #[⟨ "l",22,0,false, "", "nuncio/infer",0⟩,⟨ "secrets",29,1,false, "", "nuncio/infer",24⟩,⟨ "done",91,2,false, "", "nuncio/infer",48⟩],3,56,.agg #[.slice none 0 0,.slice none 0 0,.map none],false,[]⟩),
 (93,⟨.struct #[⟨ "l",22,0,false, "", "nuncio/infer",0⟩,⟨ "secrets",29,1,false, "", "nuncio/infer",24⟩,⟨ "done",91,2,false, "", "nuncio/infer",48⟩],3,56,.agg #[.slice none 0 0,.slice none 0 0,.map none],false,[]⟩),
 (100,⟨.map 9 3,1,8,.map none,false,[]⟩),
 (118,⟨.struct #[⟨ "name",9,0,false, "", "nuncio/infer",0⟩,⟨ "it",44,1,false, "", "nuncio/infer",16⟩],2,24,.agg #[.string ByteArray.empty,.int .i64 0],false,[]⟩),
 (119,⟨.struct #[⟨ "name",9,0,false, "", "nuncio/infer",0⟩,⟨ "it",44,1,false, "", "nuncio/infer",16⟩],2,24,.agg #[.string ByteArray.empty,.int .i64 0],true,[]⟩),
 (121,⟨.func #[156] #[] false,1,8,.nilFunc,false,[]⟩),
 (122,⟨.func #[156] #[] false,1,8,.nilFunc,false,[]⟩),
 (125,⟨.func #[36] #[] false,1,8,.nilFunc,false,[]⟩),
 (127,⟨.int .i64,1,8,.int .i64 0,false,[]⟩),
 (135,⟨.int .u32,1,4,.int .u32 0,false,[]⟩),
 (137,⟨.int .u64,1,8,.int .u64 0,false,[]⟩),
 (138,⟨.slice 147,1,24,.slice none 0 0,false,[]⟩),
 (141,⟨.pointer 143,1,8,.pointer none,false,[]⟩),
 (142,⟨.struct #[⟨ "L",138,0,false, "", "",0⟩,⟨ "At",3,1,false, "", "",24⟩,⟨ "Bad",4,2,false, "", "",32⟩],3,40,.agg #[.slice none 0 0,.int .i64 0,.bool false],false,[]⟩),
 (143,⟨.struct #[⟨ "L",138,0,false, "", "",0⟩,⟨ "At",3,1,false, "", "",24⟩,⟨ "Bad",4,2,false, "", "",32⟩],3,40,.agg #[.slice none 0 0,.int .i64 0,.bool false],false,[]⟩),
 (145,⟨.int .i64,1,8,.int .i64 0,false,[]⟩),
 (146,⟨.struct #[⟨ "Kind",145,0,false, "", "",0⟩,⟨ "Text",9,1,false, "", "",8⟩,⟨ "N",3,2,false, "", "",24⟩,⟨ "From",3,3,false, "", "",32⟩,⟨ "To",3,4,false, "", "",40⟩],5,48,.agg #[.int .i64 0,.string ByteArray.empty,.int .i64 0,.int .i64 0,.int .i64 0],false,[]⟩),
 (147,⟨.struct #[⟨ "Kind",145,0,false, "", "",0⟩,⟨ "Text",9,1,false, "", "",8⟩,⟨ "N",3,2,false, "", "",24⟩,⟨ "From",3,3,false, "", "",32⟩,⟨ "To",3,4,false, "", "",40⟩],5,48,.agg #[.int .i64 0,.string ByteArray.empty,.int .i64 0,.int .i64 0,.int .i64 0],true,[]⟩),
 (152,⟨.slice 44,1,24,.slice none 0 0,false,[]⟩),
 (156,⟨.func #[38,3] #[4] false,1,8,.nilFunc,false,[]⟩),
 (157,⟨.array 3 36,3,72,.agg #[.slice none 0 0,.slice none 0 0,.slice none 0 0],false,[]⟩),
 (158,⟨.struct #[⟨ "name",4,0,false, "", "nuncio/tree",0⟩,⟨ "text",4,1,false, "", "nuncio/tree",1⟩,⟨ "num",4,2,false, "", "nuncio/tree",2⟩,⟨ "then",4,3,false, "", "nuncio/tree",3⟩,⟨ "other",4,4,false, "", "nuncio/tree",4⟩,⟨ "l",3,5,false, "", "nuncio/tree",8⟩],6,16,.agg #[.bool false,.bool false,.bool false,.bool false,.bool false,.int .i64 0],false,[]⟩),
 (159,⟨.struct #[⟨ "name",4,0,false, "", "nuncio/tree",0⟩,⟨ "text",4,1,false, "", "nuncio/tree",1⟩,⟨ "num",4,2,false, "", "nuncio/tree",2⟩,⟨ "then",4,3,false, "", "nuncio/tree",3⟩,⟨ "other",4,4,false, "", "nuncio/tree",4⟩,⟨ "l",3,5,false, "", "nuncio/tree",8⟩],6,16,.agg #[.bool false,.bool false,.bool false,.bool false,.bool false,.int .i64 0],true,[]⟩),
 (162,⟨.int .u64,1,8,.int .u64 0,false,[]⟩),
 (166,⟨.pointer 3,1,8,.pointer none,false,[]⟩),
 (176,⟨.array 10 9,10,160,.agg #[.string ByteArray.empty,.string ByteArray.empty,.string ByteArray.empty,.string ByteArray.empty,.string ByteArray.empty,.string ByteArray.empty,.string ByteArray.empty,.string ByteArray.empty,.string ByteArray.empty,.string ByteArray.empty],false,[]⟩),
 (178,⟨.func #[44,152] #[44,4] true,1,8,.nilFunc,false,[]⟩),
 (179,⟨.slice 182,1,24,.slice none 0 0,false,[]⟩),
 (181,⟨.struct #[⟨ "of",44,0,false, "", "nuncio/kind",0⟩,⟨ "name",9,1,false, "", "nuncio/kind",8⟩,⟨ "is",44,2,false, "", "nuncio/kind",24⟩],3,32,.agg #[.int .i64 0,.string ByteArray.empty,.int .i64 0],false,[]⟩),
 (182,⟨.struct #[⟨ "of",44,0,false, "", "nuncio/kind",0⟩,⟨ "name",9,1,false, "", "nuncio/kind",8⟩,⟨ "is",44,2,false, "", "nuncio/kind",24⟩],3,32,.agg #[.int .i64 0,.string ByteArray.empty,.int .i64 0],true,[]⟩),
 (191,⟨.pointer 162,1,8,.pointer none,false,[]⟩),
 (194,⟨.slice 145,1,24,.slice none 0 0,false,[]⟩),
 (204,⟨.func #[212] #[] false,1,8,.nilFunc,false,[]⟩),
 (205,⟨.func #[212] #[] false,1,8,.nilFunc,false,[]⟩),
 (207,⟨.slice 3,1,24,.slice none 0 0,false,[]⟩),
 (212,⟨.func #[21,3] #[4] false,1,8,.nilFunc,false,[]⟩)]
set_option maxRecDepth 100000 in
theorem tbOk:TblOk Tryz.prog tb:=by
 unfold tb;refine .cons 1 _ _ (by kernel_rfl) (by kernel_rfl) (λh=>nomatch h) (λq hq=>nomatch hq) ?_;refine .cons 3 _ _ (by kernel_rfl) (by kernel_rfl) (λh=>nomatch h) (λq hq=>nomatch hq) ?_;refine .cons 4 _ _ (by kernel_rfl) (by kernel_rfl) (λh=>nomatch h) (λq hq=>nomatch hq) ?_;refine .cons 5 _ _ (by kernel_rfl) (by kernel_rfl) (λh=>nomatch h) (λq hq=>nomatch hq) ?_;refine .cons 9 _ _ (by kernel_rfl) (by kernel_rfl) (λh=>nomatch h) (λq hq=>nomatch hq) ?_;refine .cons 21 _ _ (by kernel_rfl) (by kernel_rfl) (λh=>nomatch h) (λq hq=>nomatch hq) ?_;refine .cons 22 _ _ (by kernel_rfl) (by kernel_rfl) (λh=>nomatch h) (λq hq=>nomatch hq) ?_;refine .cons 24 _ _ (by kernel_rfl) (by kernel_rfl) (λh=>nomatch h) (λq hq=>nomatch hq) ?_;refine .cons 29 _ _ (by kernel_rfl) (by kernel_rfl) (λh=>nomatch h) (λq hq=>nomatch hq) ?_;refine .cons 35 _ _ (by kernel_rfl) (by kernel_rfl) (λh=>nomatch h) (λq hq=>nomatch hq) ?_;refine .cons 36 _ _ (by kernel_rfl) (by kernel_rfl) (λh=>nomatch h) (λq hq=>nomatch hq) ?_;refine .cons 37 _ _ (by kernel_rfl) (by kernel_rfl) (λh=>nomatch h) (λq hq=>nomatch hq) ?_;refine .cons 38 _ _ (by kernel_rfl) (by kernel_rfl) (λh=>nomatch h) (λq hq=>nomatch hq) ?_;refine .cons 39 _ _ (by kernel_rfl) (by kernel_rfl) (λh=>nomatch h) (λq hq=>nomatch hq) ?_;refine .cons 43 _ _ (by kernel_rfl) (by kernel_rfl) (λh=>nomatch h) (λq hq=>nomatch hq) ?_;refine .cons 44 _ _ (by kernel_rfl) (by kernel_rfl) (λh=>nomatch h) (λq hq=>nomatch hq) ?_
 refine .cons 45 _ _ (by kernel_rfl) (by kernel_rfl) (λh=>nomatch h) (λq hq=>nomatch hq) ?_;refine .cons 46 _ _ (by kernel_rfl) (by kernel_rfl) (λ_=>by kernel_rfl) (λq hq=>nomatch hq) ?_;refine .cons 55 _ _ (by kernel_rfl) (by kernel_rfl) (λh=>nomatch h) (λq hq=>nomatch hq) ?_;refine .cons 56 _ _ (by kernel_rfl) (by kernel_rfl) (λh=>nomatch h) (λq hq=>nomatch hq) ?_;refine .cons 57 _ _ (by kernel_rfl) (by kernel_rfl) (λh=>nomatch h) (λq hq=>nomatch hq) ?_;refine .cons 65 _ _ (by kernel_rfl) (by kernel_rfl) (λh=>nomatch h) (λq hq=>nomatch hq) ?_;refine .cons 66 _ _ (by kernel_rfl) (by kernel_rfl) (λh=>nomatch h) (λq hq=>nomatch hq) ?_;refine .cons 67 _ _ (by kernel_rfl) (by kernel_rfl) (λh=>nomatch h) (λq hq=>nomatch hq) ?_;refine .cons 78 _ _ (by kernel_rfl) (by kernel_rfl) (λh=>nomatch h) (λq hq=>nomatch hq) ?_;refine .cons 87 _ _ (by kernel_rfl) (by kernel_rfl) (λh=>nomatch h) (λq hq=>nomatch hq) ?_;refine .cons 88 _ _ (by kernel_rfl) (by kernel_rfl) (λ_=>by kernel_rfl) (λq hq=>nomatch hq) ?_;refine .cons 90 _ _ (by kernel_rfl) (by kernel_rfl) (λh=>nomatch h) (λq hq=>nomatch hq) ?_;refine .cons 91 _ _ (by kernel_rfl) (by kernel_rfl) (λh=>nomatch h) (λq hq=>nomatch hq) ?_;refine .cons 92 _ _ (by kernel_rfl) (by kernel_rfl) (λh=>nomatch h) (λq hq=>nomatch hq) ?_;refine .cons 93 _ _ (by kernel_rfl) (by kernel_rfl) (λh=>nomatch h) (λq hq=>nomatch hq) ?_;refine .cons 100 _ _ (by kernel_rfl) (by kernel_rfl) (λh=>nomatch h) (λq hq=>nomatch hq) ?_
 refine .cons 118 _ _ (by kernel_rfl) (by kernel_rfl) (λh=>nomatch h) (λq hq=>nomatch hq) ?_;refine .cons 119 _ _ (by kernel_rfl) (by kernel_rfl) (λ_=>by kernel_rfl) (λq hq=>nomatch hq) ?_;refine .cons 121 _ _ (by kernel_rfl) (by kernel_rfl) (λh=>nomatch h) (λq hq=>nomatch hq) ?_;refine .cons 122 _ _ (by kernel_rfl) (by kernel_rfl) (λh=>nomatch h) (λq hq=>nomatch hq) ?_;refine .cons 125 _ _ (by kernel_rfl) (by kernel_rfl) (λh=>nomatch h) (λq hq=>nomatch hq) ?_;refine .cons 127 _ _ (by kernel_rfl) (by kernel_rfl) (λh=>nomatch h) (λq hq=>nomatch hq) ?_;refine .cons 135 _ _ (by kernel_rfl) (by kernel_rfl) (λh=>nomatch h) (λq hq=>nomatch hq) ?_;refine .cons 137 _ _ (by kernel_rfl) (by kernel_rfl) (λh=>nomatch h) (λq hq=>nomatch hq) ?_;refine .cons 138 _ _ (by kernel_rfl) (by kernel_rfl) (λh=>nomatch h) (λq hq=>nomatch hq) ?_;refine .cons 141 _ _ (by kernel_rfl) (by kernel_rfl) (λh=>nomatch h) (λq hq=>nomatch hq) ?_;refine .cons 142 _ _ (by kernel_rfl) (by kernel_rfl) (λh=>nomatch h) (λq hq=>nomatch hq) ?_;refine .cons 143 _ _ (by kernel_rfl) (by kernel_rfl) (λh=>nomatch h) (λq hq=>nomatch hq) ?_;refine .cons 145 _ _ (by kernel_rfl) (by kernel_rfl) (λh=>nomatch h) (λq hq=>nomatch hq) ?_;refine .cons 146 _ _ (by kernel_rfl) (by kernel_rfl) (λh=>nomatch h) (λq hq=>nomatch hq) ?_;refine .cons 147 _ _ (by kernel_rfl) (by kernel_rfl) (λ_=>by kernel_rfl) (λq hq=>nomatch hq) ?_;refine .cons 152 _ _ (by kernel_rfl) (by kernel_rfl) (λh=>nomatch h) (λq hq=>nomatch hq) ?_
 refine .cons 156 _ _ (by kernel_rfl) (by kernel_rfl) (λh=>nomatch h) (λq hq=>nomatch hq) ?_;refine .cons 157 _ _ (by kernel_rfl) (by kernel_rfl) (λh=>nomatch h) (λq hq=>nomatch hq) ?_;refine .cons 158 _ _ (by kernel_rfl) (by kernel_rfl) (λh=>nomatch h) (λq hq=>nomatch hq) ?_;refine .cons 159 _ _ (by kernel_rfl) (by kernel_rfl) (λ_=>by kernel_rfl) (λq hq=>nomatch hq) ?_;refine .cons 162 _ _ (by kernel_rfl) (by kernel_rfl) (λh=>nomatch h) (λq hq=>nomatch hq) ?_;refine .cons 166 _ _ (by kernel_rfl) (by kernel_rfl) (λh=>nomatch h) (λq hq=>nomatch hq) ?_;refine .cons 176 _ _ (by kernel_rfl) (by kernel_rfl) (λh=>nomatch h) (λq hq=>nomatch hq) ?_;refine .cons 178 _ _ (by kernel_rfl) (by kernel_rfl) (λh=>nomatch h) (λq hq=>nomatch hq) ?_;refine .cons 179 _ _ (by kernel_rfl) (by kernel_rfl) (λh=>nomatch h) (λq hq=>nomatch hq) ?_;refine .cons 181 _ _ (by kernel_rfl) (by kernel_rfl) (λh=>nomatch h) (λq hq=>nomatch hq) ?_;refine .cons 182 _ _ (by kernel_rfl) (by kernel_rfl) (λ_=>by kernel_rfl) (λq hq=>nomatch hq) ?_;refine .cons 191 _ _ (by kernel_rfl) (by kernel_rfl) (λh=>nomatch h) (λq hq=>nomatch hq) ?_;refine .cons 194 _ _ (by kernel_rfl) (by kernel_rfl) (λh=>nomatch h) (λq hq=>nomatch hq) ?_;refine .cons 204 _ _ (by kernel_rfl) (by kernel_rfl) (λh=>nomatch h) (λq hq=>nomatch hq) ?_;refine .cons 205 _ _ (by kernel_rfl) (by kernel_rfl) (λh=>nomatch h) (λq hq=>nomatch hq) ?_;refine .cons 207 _ _ (by kernel_rfl) (by kernel_rfl) (λh=>nomatch h) (λq hq=>nomatch hq) ?_
 refine .cons 212 _ _ (by kernel_rfl) (by kernel_rfl) (λh=>nomatch h) (λq hq=>nomatch hq) ?_;exact .nil _
theorem mixed:Tryz.prog.follows .mixedOrders=true:=by kernel_rfl
theorem Qaen{a b:ByteArray}(h:a=b):Ending.returned (.string a) = .returned (.string b):=by rw[h]
theorem Q12{k:IntKind}{a b:Int}{c d:Bool}(h:a=b)(g:c=d):Ending.returned (.tuple #[.int k a,.bool c]) = .returned (.tuple #[.int k b,.bool d]):=by rw[h,g]
theorem Q6t(s:ByteArray)(i:Nat)(h:i<s.size):s[i]=s.data.toList.getD i 0:=by
 have h' : i<s.data.toList.length:=by simpa using h
 rw[List.getD,List.getElem?_eq_getElem h'];rfl
theorem Ql8(s:ByteArray):s.size=s.data.toList.length:=by simp
def sV(l:List UInt8):V :=.v (Qd1 l)
def iV(n:Int):V :=.v (.int .i64 n)
def bV(b:Bool):V :=.v (.bool b)
theorem us1{us:Array Value}(h:us.size=1):∃ a,us = #[a]:=by
 match us,h with
 | ⟨[a]⟩,_=>exact⟨a,rfl⟩
theorem us2{us:Array Value}(h:us.size=2):∃ a b,us = #[a,b]:=by
 match us,h with
 | ⟨[a,b]⟩,_=>exact⟨a,b,rfl⟩
theorem Qam5{G:Gh}{w:World}{a b:Value}(ha:scal a=true)(hb:scal b=true):DRel G w (.tup [.p (.v a),.p (.v b)]) (.tuple #[a,b]):=by
 refine .tup _ _ rfl λj c u hc hu=>?_
 match j with
 | 0=>simp at hc hu; subst hc; subst hu; exact .p _ _ (.v _ ha)
 | 1=>simp at hc hu; subst hc; subst hu; exact .p _ _ (.v _ hb)
 | j+2=>simp at hc
def Q3e:Code->Nat
 | .seq a b=>Q3e a+Q3e b+1
 | .cond _ a b=>Q3e a+Q3e b+1
 | .block _ b=>Q3e b+1
 | .loop b=>Q3e b+1
 | .rangeFunc _ _ a b=>Q3e a+Q3e b+1
 | _=>1
def skey:Code->Nat
 | .region id _ _=>3000000+id
 | x=>2000000+1000*Qhn x+Q3e x
def Qa2:Code->List Code
 | .seq a b=>Qa2 a++Qa2 b
 | .cond _ a b=>Qa2 a++Qa2 b
 | .block _ b=>Qa2 b
 | .loop b=>b::Qa2 b
 | .rangeFunc g ps a b =>.rangeFunc g ps a b::(Qa2 a++Qa2 b)
 | .scope b=>Qa2 b
 | _=>[]
section
variable {P:Program} {tb:Tbl}
def Qaa4(o:Option (List Nat))(n:Nat):Nat:=match o with
 | some [b]=>if b<=n then b else n
 | _=>n
theorem Q6u(o:Option (List Nat))(n:Nat):Qaa4 o n<=n:=by
 unfold Qaa4;split
 .split
  .assumption
  .exact Nat.le_refl _
 .exact Nat.le_refl _
def rwp (P : Program) (tb : Tbl) (N : Nat) (lv : List (Nat × List Nat)) (id : Nat) (ops : Array Oper) (dr : Bool) (Q : St → Prop) (σ : St) : Prop := Qago σ fun σ => match dr with
    | false => match lv.lookup (9000000 + id) with
      | none => bOps true P tb N ops.toList (List.range ops.toList.length) σ fun σ' => Q (keep (lv.lookup id) σ')
      | some mk => xOps mk P tb N ops.toList (List.range ops.toList.length) σ fun σ' => Q (keep (lv.lookup id) σ')
    | true => match lv.lookup (9400000 + id) with
     | some _ => ∃ (t : PT) (τ : St), Qack ops true t (Array.replicate ops.size false) ops.size = true ∧ allT P tb N ops.toList (fun σ' => keep (lv.lookup id) σ' = τ) true t σ ∧ Q τ
     | none => match lv.lookup (9800000 + id) with
     | some [j] => Q3d ops.toList j = true ∧ Q6p ((lv.lookup (5000000 + id)).getD []) ops.toList j = true ∧ (lv.lookup (7000000 + id)).isSome = true ∧ dOps (Qaa4 (lv.lookup (8000000 + id)) σ.s.heap.length) ((lv.lookup (5000000 + id)).getD []) P tb N ops.toList (List.range j) σ fun σ' =>
        xOps ((lv.lookup (9000000 + id)).getD []) P tb N ops.toList (List.range' j (ops.toList.length - j)) (keep (lv.lookup (7000000 + id)) σ') fun σ2 => Q (keep (lv.lookup id) σ2)
     | _ => match lv.lookup (6000000 + id) with
      | some [j] => Qaej ops.toList j = true ∧ Q6p ((lv.lookup (5000000 + id)).getD []) ops.toList j = true ∧ (lv.lookup (7000000 + id)).isSome = true ∧ dOps σ.s.heap.length ((lv.lookup (5000000 + id)).getD []) P tb N ops.toList (List.range j) σ fun σ' =>
        ∃ σ2, Apv tb ops.toList j N (keep (lv.lookup (7000000 + id)) σ') σ2 ∧ Q (keep (lv.lookup id) σ2)
      | some [p, _] => Q6r p (p + 1) ((lv.lookup (5000000 + id)).getD []) ops.toList = true ∧ Qaem p ops.toList = true ∧ p + 1 < ops.toList.length ∧ (lv.lookup id).isSome = true ∧
        dOps σ.s.heap.length ((lv.lookup (5000000 + id)).getD []) P tb N ops.toList (List.range p) σ (both σ.s.heap.length ((lv.lookup (5000000 + id)).getD []) P tb N ops.toList p fun σ' => Q (keep (lv.lookup id) σ'))
      | _ => Qaa2 ((lv.lookup (5000000 + id)).getD []) ops.toList = true ∧ (lv.lookup id).isSome = true ∧ dOps (Qaa4 (lv.lookup (8000000 + id)) σ.s.heap.length) ((lv.lookup (5000000 + id)).getD []) P tb N ops.toList (List.range ops.toList.length) σ fun σ' => Q (keep (lv.lookup id) σ')
def panE(o:Option (List Nat))(σ : St):St:=match o with
 | none=>⟨[],σ.s⟩
 | some l=>keep (some l) σ
theorem Qaa5{N:Nat}{G:Gh}{σ : St}{a:Act}{w:World}(h:Rel N G σ a w)(o:Option (List Nat)):Rel N G (panE o σ) a w:=by
 unfold panE;split
 .exact⟨h.inv,λt d hd=>by simp at hd,h.size⟩
 .exact Qf6 h _
def rwpP(P:Program)(tb:Tbl)(N:Nat)(lv:List (Nat×List Nat))(pk:List Nat)(id:Nat)(ops:Array Oper)(dr:Bool)(Q:Exit->St->Prop)(σ : St):Prop:=Qago σ λσ => match dr with
 | false=>pOps pk ((lv.lookup (9000000+id)).getD []) P tb N ops.toList (λz τ => Q (.panic (Qle z)) (panE (lv.lookup (9700000+id)) τ)) (List.range ops.toList.length) σ λσ' => Q .normal (keep (lv.lookup id) σ')
 | true=>rwp P tb N lv id ops true (Q .normal) σ \/ ∃ t:PT,Qakx ops t=true/\panT P tb N ops.toList (λz τ => Q (.panic (Qle z)) (panE (lv.lookup (9700000+id)) τ)) t σ
def bwp(B:Nat×Nat)(P:Program)(tb:Tbl)(N:Nat)(lv:List (Nat×List Nat)):Code->(Exit->St->Prop)->St->Prop
 | .skip,Q,σ => Q .normal σ
 | .label _,Q,σ => Q .normal σ
 | .region id ops dr,Q,σ => match lv.lookup (9600000+id) with
  | none=>match lv.lookup (9500000+id) with
   | none=>rwp P tb N lv id ops dr (Q .normal) σ
   | some _=>∃ τ,Le B N σ τ /\ rwp P tb N lv id ops dr (Q .normal) τ
  | some pk=>∃ τ,Le B N σ τ /\ rwpP P tb N lv pk id ops dr Q τ
 | .seq x y,Q,σ => match lv.lookup (skey x) with
  | none=>bwp B P tb N lv x (λe σ' => match e with | .normal=>bwp B P tb N lv y Q σ' | e=>Q e σ') σ
  | some _=>∃ M:Exit->St->Prop,bwp B P tb N lv x M σ /\ ∀ e σ', M e σ' -> ∃ τ,Le B N σ' τ /\ (match e with | .normal=>bwp B P tb N lv y Q τ | e=>Q e τ)
 | .cond c x y,Q,σ => match ev σ.env c with
  | some (.p (.v (.bool b)))=>(b=true->bwp B P tb N lv x Q σ)/\(b=false->bwp B P tb N lv y Q σ)
  | _=>False
 | .block id b,Q,σ => bwp B P tb N lv b (λe σ' => match e with | .exit i=>if i=id then Q .normal σ' else Q (.exit i) σ' | e=>Q e σ') σ
 | .exit id,Q,σ => Q (.exit id) σ
 | .ret,Q,σ => Q .ret σ
 | .goto l,Q,σ => Q (.goto l) σ
 | .scope b,Q,σ => ∃ M:Exit->St->Prop,T B P N (.scope b) M σ /\ ∀ e σ', M e σ' -> ∃ τ,Le B N σ' τ /\ Q e τ
 | .loop b,Q,σ => ∃ M:Exit->St->Prop,T B P N (.loop b) M (keep (lv.lookup (1000000+Qhn b)) σ)/\∀ e σ', M e σ' -> ∃ τ,Le B N σ' τ /\ Q e τ
 | .rangeFunc g ps x y,Q,σ => ∃ M:Exit->St->Prop,T B P N (.rangeFunc g ps x y) M (keep (lv.lookup (4000000+Qhn (.rangeFunc g ps x y))) σ)/\∀ e σ', M e σ' -> ∃ τ,Le B N σ' τ /\ Q e τ
 | _,_,_=>False
theorem T_up{B:Nat×Nat}{N:Nat}{c:Code}{M Q:Exit->St->Prop}{σ : St}(h:T B P N c M σ)(k:∀ e σ', M e σ' -> ∃ τ,Le B N σ' τ /\ Q e τ):T B P N c Q σ := ⟨λrd lo G a w hR hF =>
 wpIn_mono (h.out rd lo G a w hR hF) λe a' w' ⟨G', σ', hE,hR', hF', hq⟩=>by
  obtain⟨τ,hl,hq⟩:=k e σ' hq;obtain⟨G2,e2,r2⟩:=hl.out G' a' w' hR';exact⟨G2,τ,hE.trans e2,r2,hF'.ext e2.ext rfl,hq⟩⟩
theorem Qaky{B:Nat×Nat}{N:Nat}{x y:Code}{M Q:Exit->St->Prop}{σ : St}(h:T B P N x M σ)(k:∀ e σ', M e σ' -> match e with | .normal=>T B P N y Q σ' | e=>Q e σ'):T B P N (.seq x y) Q σ := ⟨λrd lo G a w hR hF=>by
 refine wpIn_seq (wpIn_mono (h.out rd lo G a w hR hF) λe a' w' ⟨G', σ', hE,hR', hF', hq⟩=>?_);have hq:=k e σ' hq;cases e with
 | normal=>exact wpIn_mono (hq.out rd lo G' a' w' hR' hF') λe a'' w'' ⟨G'', σ'', hE', hR'', hF'', hq'⟩=>⟨G'', σ'', hE.trans hE', hR'', hF'', hq'⟩
 | exit id=>exact⟨G', σ', hE,hR', hF', hq⟩
 | goto l=>exact⟨G', σ', hE,hR', hF', hq⟩
 | ret=>exact⟨G', σ', hE,hR', hF', hq⟩
 | panic ch=>exact⟨G', σ', hE,hR', hF', hq⟩
 | outgrown=>exact⟨G', σ', hE,hR', hF', hq⟩⟩
theorem Qx4(hm:P.follows .mixedOrders=true)(hT:TblOk P tb){B:Nat×Nat}{N:Nat}{lv:List (Nat×List Nat)}{id:Nat}{ops:Array Oper}{dr:Bool}{Q:Exit->St->Prop}{σ : St}(h:rwp P tb N lv id ops dr (Q .normal) σ):T B P N (.region id ops dr) Q σ :=.mk λrd lo G a w hR hF=>by
 unfold rwp at h;rw[Q2x] at h;have hops:ops.toList.toArray=ops:=by simp
 cases dr with
 | false =>
  refine wpIn_region ?_;simp only at h;split at h
  .have:=Qq4 hT (rd:=rd) (ops:=ops.toList) (Q:=λe a' w' => ∃ G' σ', Ex B G w G' w' /\ Rel N G' σ' a' w' /\ Fr rd lo G' a' w' /\ Q e σ') (G0:=G) (w0:=w) (ds:=a.defers) (λa' w' G' σ' hE hR' hd hK=>⟨G', _,hE,Qf6 hR' _,hF.ext hE.ext hd,hK⟩) _ σ a w G (.refl B G w) hR rfl h;rw[hops] at this;simpa using this
  .have:=Qq6 hT (rd:=rd) (ops:=ops.toList) (Q:=λe a' w' => ∃ G' σ', Ex B G w G' w' /\ Rel N G' σ' a' w' /\ Fr rd lo G' a' w' /\ Q e σ') (G0:=G) (w0:=w) (ds:=a.defers) (λa' w' G' σ' hE hR' hd hK=>⟨G', _,hE,Qf6 hR' _,hF.ext hE.ext hd,hK⟩) _ σ a w G (.refl B G w) hR rfl h;rw[hops] at this;simpa using this
 | true =>
  simp only at h;split at h
  .obtain⟨t,τ,h1,h2,h3⟩:=h;refine wpIn_region_any hm ?_;have hd:Stp G w G { w with drawn:=w.drawn+1 }:=Stp.drewN G w _;have:=(Qacl hT (rd:=rd) (N:=N) (ops:=ops.toList) (Q:=λe a' w' => ∃ G' σ', Ex B G w G' w' /\ Rel N G' σ' a' w' /\ Fr rd lo G' a' w' /\ Q e σ') (leaf:=λσ' => keep (lv.lookup id) σ' = τ) (B:=B) (G0:=G) (w0:=w) (ds:=a.defers)
    (λa' w' G' σ' hE hR' hd hK=>⟨G', _,hE,Qf6 hR' (lv.lookup id),hF.ext hE.ext hd,by rw[hK]; exact h3⟩) t true ops.size (Array.replicate ops.size false) σ a { w with drawn:=w.drawn+1 } G (by rw[hops]; exact h1) (hd.ex B) ⟨hR.inv.drewN _,hR.env.mono hd,hR.size⟩ rfl h2).1 rfl
   rw[hops] at this;exact this
  split at h
  .rename_i j hj;obtain⟨h1,h2,h3,h4⟩:=h;obtain⟨hjl,hsp⟩:=Qvo h1;obtain⟨l,hl⟩:=Option.isSome_iff_exists.1 h3;refine wpIn_region_any hm ?_;have hsz:ops.size=ops.toList.length:=by simp
   have hall:((List.range j).filter λi => !(Array.replicate ops.size false).getD i true)=List.range j:=by
    rw[List.filter_eq_self];intro i hi;have:i<ops.size:=by have:=List.mem_range.1 hi; omega
    simp[Array.getD_eq_getD_getElem?,this]
   have hd:Stp G w G { w with drawn:=w.drawn+1 }:=Stp.drewN G w _;have:=Qu3 hT (rd:=rd) (ops:=ops.toList) (j:=j) (k:=ops.toList.length-j) hjl h2 (λi o hi ho x hx=>(hsp i o hi ho).2.1 x hx) (ds:=a.defers) (Q:=λe a' w' => ∃ G' σ', Ex B G w G' w' /\ Rel N G' σ' a' w' /\ Fr rd lo G' a' w' /\ Q e σ')
    (K:=λσ' => xOps ((lv.lookup (9000000+id)).getD []) P tb N ops.toList (List.range' j (ops.toList.length-j)) (keep (lv.lookup (7000000+id)) σ') λσ2=>Q .normal (keep (lv.lookup id) σ2)) (λσ τ he hq=>by
     have e:keep (lv.lookup (7000000+id)) σ = keep (lv.lookup (7000000+id)) τ := by
      rw[hl];simp only[keep,he.2,Qlh l he.1]
     show xOps _ P tb N ops.toList _ (keep (lv.lookup (7000000+id)) τ) _;rw[<-e]; exact hq) (G0:=G) (w0:=w) (λa' w' G' σ' L l1 l2 l3 hE hR' hd hK=>Qacm hT h1 (Q:=λe a' w' => ∃ G' σ', Ex B G w G' w' /\ Rel N G' σ' a' w' /\ Fr rd lo G' a' w' /\ Q e σ') (λa2 w2 G2 σ2 e2 r2 d2 k2=>⟨G2,_,e2,Qf6 r2 _,hF.ext e2.ext d2,k2⟩)
     (ops.toList.length-j) j (Nat.le_refl _) (by omega) L _ a' w' G' l1 l2 l3 hE (Qf6 hR' _) hd hK)
    j (Array.replicate ops.size false) σ a { w with drawn:=w.drawn+1 } G (by simp) (λi o ho hi=>by
     have hlt:i<ops.size:=by rw[hsz]; exact(List.getElem?_eq_some_iff.1 ho).1
     simp[Array.getD_eq_getD_getElem?,hlt] at hi) (λi _ hi=>by
     have hlt:i<ops.size:=by simpa using hi
     simp[Array.getD_eq_getD_getElem?,hlt]) (by rw[hall]; simp) (hd.ex B) ⟨hR.inv.drewN _,hR.env.mono hd,hR.size⟩ rfl (Q6u _ _) (by rw[hall]; exact h4)
   rw[hops] at this;have hjz:j+(ops.toList.length-j)=ops.size:=by omega
   rw[hjz] at this;exact this
  split at h
  .rename_i j hj;obtain⟨h1,h2,h3,h4⟩:=h;have ht:=Q87 h1;obtain⟨l,hl⟩:=Option.isSome_iff_exists.1 h3;refine wpIn_region_any hm ?_;have hsz:ops.size=j+6:=by have:=ht.len; simpa using this
   have hall:((List.range j).filter λi => !(Array.replicate ops.size false).getD i true)=List.range j:=by
    rw[List.filter_eq_self];intro i hi;have:i<ops.size:=by have:=List.mem_range.1 hi; omega
    simp[Array.getD_eq_getD_getElem?,this]
   have hd:Stp G w G { w with drawn:=w.drawn+1 }:=Stp.drewN G w _;have:=Qu3 hT (rd:=rd) (ops:=ops.toList) (j:=j) (k:=6) (by rw[ht.len]; omega) h2 (λi o hi ho x hx=>by
     have hi6:i<j+6:=by have:=(List.getElem?_eq_some_iff.1 ho).1; rw[ht.len] at this; exact this
     have:=ht.pre (i-j) (by omega) x hx;rw[show j+(i-j)=i by omega] at this;obtain⟨e,he,hb,hon⟩:=(Qtm ho).1 this;exact hon ▸ Reach.one ho he hb) (ds:=a.defers) (Q:=λe a' w' => ∃ G' σ', Ex B G w G' w' /\ Rel N G' σ' a' w' /\ Fr rd lo G' a' w' /\ Q e σ') (K:=λσ' => ∃ σ2,Apv tb ops.toList j N (keep (lv.lookup (7000000+id)) σ') σ2/\Q .normal (keep (lv.lookup id) σ2)) (λσ τ he hq=>by
     have e:keep (lv.lookup (7000000+id)) σ = keep (lv.lookup (7000000+id)) τ := by
      rw[hl];simp only[keep,he.2,Qlh l he.1]
     show ∃ σ2,Apv tb ops.toList j N (keep (lv.lookup (7000000+id)) τ) σ2/\Q .normal (keep (lv.lookup id) σ2);rw[<-e]; exact hq) (G0:=G) (w0:=w) (λa' w' G' σ' L l1 l2 l3 hE hR' hd ⟨σ2,hA,hK⟩=>Qael hT ht hA (Qf6 hR' _) (λa2 w2 G2 e2 r2 d2=>⟨G2,_,hE.trans (e2.ex B),Qf6 r2 _,hF.ext (hE.trans (e2.ex B)).ext (d2.trans hd),hK⟩) L l1 l2 l3)
    j (Array.replicate ops.size false) σ a { w with drawn:=w.drawn+1 } G (by simp) (λi o ho hi=>by
     have hlt:i<ops.size:=by have:=(List.getElem?_eq_some_iff.1 ho).1; simpa using this
     simp[Array.getD_eq_getD_getElem?,hlt] at hi) (λi _ hi=>by
     have hlt:i<ops.size:=by simpa using hi
     simp[Array.getD_eq_getD_getElem?,hlt]) (by rw[hall]; simp) (hd.ex B) ⟨hR.inv.drewN _,hR.env.mono hd,hR.size⟩ rfl (Nat.le_refl _) (by rw[hall]; exact h4)
   rw[hops,<-hsz] at this;exact this
  .rename_i p _ hj;obtain⟨h1,h2,h3,h4,h5⟩:=h;obtain⟨l,hl⟩:=Option.isSome_iff_exists.1 h4;refine wpIn_region_any hm ?_;have hsz:ops.size=ops.toList.length:=by simp
   have hall:((List.range p).filter λi => !(Array.replicate ops.size false).getD i true)=List.range p:=by
    rw[List.filter_eq_self];intro i hi;have:i<ops.size:=by have:=List.mem_range.1 hi; omega
    simp[Array.getD_eq_getD_getElem?,this]
   have hd:Stp G w G { w with drawn:=w.drawn+1 }:=Stp.drewN G w _;have:=Q10 hT (rd:=rd) (ops:=ops.toList) h1 h3 (Q89 h2) (ds:=a.defers) (Q:=λe a' w' => ∃ G' σ', Ex B G w G' w' /\ Rel N G' σ' a' w' /\ Fr rd lo G' a' w' /\ Q e σ') (K:=λσ' => Q .normal (keep (lv.lookup id) σ')) (λσ τ he hq=>by
     have e:keep (lv.lookup id) σ = keep (lv.lookup id) τ := by
      rw[hl];simp only[keep,he.2,Qlh l he.1]
     show Q .normal (keep (lv.lookup id) τ);rw[<-e]; exact hq) (G0:=G) (w0:=w) (λa' w' G' σ' hE hR' hd hK=>⟨G', _,hE,Qf6 hR' _,hF.ext hE.ext hd,hK⟩)
    ops.size (Array.replicate ops.size false) σ a { w with drawn:=w.drawn+1 } G (by simp) (λi o ho hi=>by
     have hlt:i<ops.size:=by rw[hsz]; exact(List.getElem?_eq_some_iff.1 ho).1
     simp[Array.getD_eq_getD_getElem?,hlt] at hi) (λi _ hi=>by
     have hlt:i<ops.size:=by simpa using hi
     simp[Array.getD_eq_getD_getElem?,hlt]) (by rw[hall]; simp at h3 ⊢; omega) (hd.ex B) ⟨hR.inv.drewN _,hR.env.mono hd,hR.size⟩ rfl (Nat.le_refl _) (by rw[hall]; exact h5)
   rw[hops] at this;exact this
  .obtain⟨h1,h2,h3⟩:=h;obtain⟨l,hl⟩:=Option.isSome_iff_exists.1 h2;refine wpIn_region_any hm ?_;have hsz:ops.size=ops.toList.length:=by simp
   have hall:((List.range ops.toList.length).filter λi => !(Array.replicate ops.size false).getD i true)=List.range ops.toList.length:=by
    rw[List.filter_eq_self];intro i hi;have:i<ops.size:=by simpa using hi
    simp[Array.getD_eq_getD_getElem?,this]
   have hd:Stp G w G { w with drawn:=w.drawn+1 }:=Stp.drewN G w _;have:=Q6o hT (rd:=rd) (ops:=ops.toList) h1 (ds:=a.defers) (Q:=λe a' w' => ∃ G' σ', Ex B G w G' w' /\ Rel N G' σ' a' w' /\ Fr rd lo G' a' w' /\ Q e σ') (K:=λσ' => Q .normal (keep (lv.lookup id) σ')) (λσ τ he hq=>by
     have e:keep (lv.lookup id) σ = keep (lv.lookup id) τ := by
      rw[hl];simp only[keep,he.2,Qlh l he.1]
     show Q .normal (keep (lv.lookup id) τ);rw[<-e]; exact hq) (G0:=G) (w0:=w) (λa' w' G' σ' hE hR' hd hK=>⟨G', _,hE,Qf6 hR' _,hF.ext hE.ext hd,hK⟩)
    ops.size (Array.replicate ops.size false) σ a { w with drawn:=w.drawn+1 } G (by simp) (λi o ho hi=>by
     have hlt:i<ops.size:=by rw[hsz]; exact(List.getElem?_eq_some_iff.1 ho).1
     simp[Array.getD_eq_getD_getElem?,hlt] at hi) (by rw[hall]; simp) (hd.ex B) ⟨hR.inv.drewN _,hR.env.mono hd,hR.size⟩ rfl (Q6u _ _) (by rw[hall]; exact h3)
   rw[hops] at this;exact this
theorem Qacn(hm:P.follows .mixedOrders=true)(hT:TblOk P tb){B:Nat×Nat}{N:Nat}{lv:List (Nat×List Nat)}{pk:List Nat}{id:Nat}{ops:Array Oper}{dr:Bool}{Q:Exit->St->Prop}{σ : St}(h:rwpP P tb N lv pk id ops dr Q σ):T B P N (.region id ops dr) Q σ :=.mk λrd lo G a w hR hF=>by
 unfold rwpP at h;rw[Q2x] at h;have hops:ops.toList.toArray=ops:=by simp
 cases dr with
 | true =>
  rcases h with h | ⟨t,h1,h2⟩
  .exact(Qx4 (Q:=Q) hm hT h).out rd lo G a w hR hF
  .refine wpIn_region_any hm ?_;have hd:Stp G w G { w with drawn:=w.drawn+1 }:=Stp.drewN G w _;unfold Qakx at h1;split at h1
   .cases h1
   .rename_i k hk;rw[Bool.and_eq_true] at h1;rw[hk] at h1 ⊢;refine Q3c h1.1 ?_;have:=Qacj hT (rd:=rd) (N:=N) (ops:=ops.toList) (Q:=λe a' w' => ∃ G' σ', Ex B G w G' w' /\ Rel N G' σ' a' w' /\ Fr rd lo G' a' w' /\ Q e σ') (KP:=λz τ => Q (.panic (Qle z)) (panE (lv.lookup (9700000+id)) τ)) (B:=B) (G0:=G) (w0:=w) (ds:=a.defers)
     (λ_ a' w' G' σ' hE hR' hd hK=>⟨G', _,hE,Qaa5 hR' _,hF.ext hE.ext hd,hK⟩) t k _ σ a { w with drawn:=w.drawn+1 } G (by rw[hops]; exact h1.2) (hd.ex B) ⟨hR.inv.drewN _,hR.env.mono hd,hR.size⟩ rfl h2
    rw[hops] at this;exact this
 | false =>
  refine wpIn_region ?_;have:=Qq7 hT (rd:=rd) (ops:=ops.toList) (Q:=λe a' w' => ∃ G' σ', Ex B G w G' w' /\ Rel N G' σ' a' w' /\ Fr rd lo G' a' w' /\ Q e σ') (G0:=G) (w0:=w) (ds:=a.defers) (λa' w' G' σ' hE hR' hd hK=>⟨G', _,hE,Qf6 hR' _,hF.ext hE.ext hd,hK⟩)
   (λ_ a' w' G' σ' hE hR' hd hK=>⟨G', _,hE,Qaa5 hR' _,hF.ext hE.ext hd,hK⟩) _ σ a w G (.refl B G w) hR rfl h
  rw[hops] at this;simpa using this
theorem Qaq(hm:P.follows .mixedOrders=true)(hT:TblOk P tb){B:Nat×Nat}{N:Nat}{lv:List (Nat×List Nat)}:∀ (c:Code) (Q:Exit->St->Prop) (σ : St),bwp B P tb N lv c Q σ -> T B P N c Q σ
 | .skip,Q,σ,h=>⟨λrd lo G a w hR hF=>wpIn_skip ⟨G,σ,.refl B G w,hR,hF,h⟩⟩
 | .label l,Q,σ,h=>⟨λrd lo G a w hR hF=>wpIn_label ⟨G,σ,.refl B G w,hR,hF,h⟩⟩
 | .exit id,Q,σ,h=>⟨λrd lo G a w hR hF=>wpIn_exit ⟨G,σ,.refl B G w,hR,hF,h⟩⟩
 | .ret,Q,σ,h=>⟨λrd lo G a w hR hF=>wpIn_ret ⟨G,σ,.refl B G w,hR,hF,h⟩⟩
 | .goto l,Q,σ,h=>⟨λrd lo G a w hR hF=>wpIn_goto ⟨G,σ,.refl B G w,hR,hF,h⟩⟩
 | .scope b,Q,σ,h=>by
  obtain⟨M,h1,h2⟩:=h;exact T_up h1 h2
 | .region id ops dr,Q,σ,h=>by
  unfold bwp at h;split at h
  .split at h
   .exact Qx4 hm hT h
   .obtain⟨τ,hl,h⟩:=h;exact Qk4 hl (Qx4 hm hT h)
  .obtain⟨τ,hl,h⟩:=h;exact Qk4 hl (Qacn hm hT h)
 | .seq x y,Q,σ,h=>by
  unfold bwp at h;split at h
  .refine Qaky (Qaq hm hT x _ σ h) λe σ' hq=>?_
   cases e with
   | normal=>exact Qaq hm hT y Q σ' hq
   | _=>exact hq
  .obtain⟨M,h1,h2⟩:=h;refine Qaky (T_up (Q:=λe τ => match e with | .normal=>bwp B P tb N lv y Q τ | e=>Q e τ) (Qaq hm hT x M σ h1) h2) λe σ' hq=>?_
   cases e with
   | normal=>exact Qaq hm hT y Q σ' hq
   | _=>exact hq
 | .cond c x y,Q,σ,h =>.mk λrd lo G a w hR hF=>by
  unfold bwp at h;split at h
  .rename_i b hb;have hc:=Qrz hR.env c _ hb;have hv:a.eval c = .bool b:=by
    generalize a.eval c=q at hc;cases hc with | p _ _ hc=>cases hc; rfl
   exact wpIn_cond_split hv (λhb=>(Qaq hm hT x Q σ (h.1 hb)).out rd lo G a w hR hF) (λhb=>(Qaq hm hT y Q σ (h.2 hb)).out rd lo G a w hR hF)
  .exact h.elim
 | .block id b,Q,σ,h =>.mk λrd lo G a w hR hF=>by
  refine wpIn_block (wpIn_mono ((Qaq hm hT b _ σ h).out rd lo G a w hR hF) λe a' w' ⟨G', σ', hE,hR', hF', hq⟩=>?_);cases e with
  | normal=>exact⟨G', σ', hE,hR', hF', hq⟩
  | exit i =>
   have hq:if i=id then Q .normal σ' else Q (.exit i) σ' := hq
   show if i=id then _ else _
   split
   .rename_i hi; rw[if_pos hi] at hq; exact⟨G', σ', hE,hR', hF', hq⟩
   .rename_i hi; rw[if_neg hi] at hq; exact⟨G', σ', hE,hR', hF', hq⟩
  | goto l=>exact⟨G', σ', hE,hR', hF', hq⟩
  | ret=>exact⟨G', σ', hE,hR', hF', hq⟩
  | panic ch=>exact⟨G', σ', hE,hR', hF', hq⟩
  | outgrown=>exact⟨G', σ', hE,hR', hF', hq⟩
 | .loop b,Q,σ,h=>by
  obtain⟨M,h1,h2⟩:=h;exact Qah3 _ (T_up h1 h2)
 | .rangeFunc g ps x y,Q,σ,h=>by
  obtain⟨M,h1,h2⟩:=h;exact Qah3 _ (T_up h1 h2)
 | .refuse _,_,_,h=>h.elim
structure TL (B:Nat×Nat) (P:Program) (N:Nat) (c:Code) (Q:Exit->St->Prop) (σ : St):Prop where
 out:∀ rd lo G a w,Rel N G σ a w->Fr rd lo G a w->∀ (b:Frame) (k:List Item) (cs:List Frame),b.roundOf=rd->∃ e a' w', (∃ G' σ', Ex B G w G' w' /\ Rel N G' σ' a' w' /\ Fr rd lo G' a' w' /\ Q e σ') /\
  ArrivesIn (Machine.fenced P (FW rd)) P (lone (b.atR a (.code c :: .inLoop c::k)) cs w) b k cs e a' w'
theorem TL.loop{B:Nat×Nat}{N:Nat}{c:Code}{Q:Exit->St->Prop}{σ : St}(h:TL B P N c Q σ):T B P N (.loop c) Q σ := ⟨λrd lo G a w hR hF b k cs hro hb hr=>by
 obtain⟨e,a', w', hq,harr⟩:=h.out rd lo G a w hR hF b k cs (hro.trans (Q2s rd));exact⟨e,a', w', hq,.of_steps (.one (fenced_calm hb hr rfl) stepR_loop) harr⟩⟩
theorem TL.le{B:Nat×Nat}{N:Nat}{c:Code}{Q:Exit->St->Prop}{σ τ : St}(h:Le B N σ τ)(k:TL B P N c Q τ):TL B P N c Q σ := ⟨λrd lo G a w hR hF b ks cs hro=>by
 obtain⟨G1,e1,r1⟩:=h.out G a w hR;obtain⟨e,a', w', ⟨G', σ', hE,hR', hF', hq⟩,harr⟩:=k.out rd lo G1 a w r1 (hF.ext e1.ext rfl) b ks cs hro;exact⟨e,a', w', ⟨G', σ', e1.trans hE,hR', hF', hq⟩,harr⟩⟩
theorem TL.round{B:Nat×Nat}{N:Nat}{c:Code}{Q:Exit->St->Prop}{σ : St}(h:T B P N c (λe σ' => match e with | .normal=>TL B P N c Q σ' | e=>Q e σ') σ):TL B P N c Q σ := ⟨λrd lo G a w hR hF b k cs hro=>by
 obtain⟨e,a₁,w₁,⟨G₁,σ₁,hE₁,hR₁,hF₁,hq⟩,harr⟩:=h.out rd lo G a w hR hF b (.inLoop c::k) cs (hro.trans (Q2s rd).symm) (Q50 _ _) (Qadv _ _);cases e with
 | normal =>
  obtain⟨e₂,a₂,w₂,⟨G₂,σ₂,hE₂,hR₂,hF₂,hq₂⟩,harr₂⟩:=hq.out rd lo G₁ a₁ w₁ hR₁ hF₁ b k cs hro;exact⟨e₂,a₂,w₂,⟨G₂,σ₂,hE₁.trans hE₂,hR₂,hF₂,hq₂⟩,.of_steps (StepsIn.trans harr (.one (fenced_calm (n:=0) (Q50 _ _) (Qadv _ _) rfl) stepR_inLoop)) harr₂⟩
 | exit id=>exact⟨_,a₁,w₁,⟨G₁,σ₁,hE₁,hR₁,hF₁,hq⟩,.pass (x :=.inLoop c) rfl (λ_ _ =>.inl (by simp)) harr⟩
 | goto l=>exact⟨_,a₁,w₁,⟨G₁,σ₁,hE₁,hR₁,hF₁,hq⟩,.pass (x :=.inLoop c) rfl (λ_ _ =>.inl (by simp)) harr⟩
 | ret=>exact⟨_,a₁,w₁,⟨G₁,σ₁,hE₁,hR₁,hF₁,hq⟩,.pass (x :=.inLoop c) rfl (λ_ _ =>.inl (by simp)) harr⟩
 | panic ch=>exact⟨_,a₁,w₁,⟨G₁,σ₁,hE₁,hR₁,hF₁,hq⟩,.pass (x :=.inLoop c) rfl (λ_ _ =>.inl (by simp)) harr⟩
 | outgrown=>exact⟨_,a₁,w₁,⟨G₁,σ₁,hE₁,hR₁,hF₁,hq⟩,.pass (x :=.inLoop c) rfl (λ_ _ =>.inl (by simp)) harr⟩⟩
inductive LeE (env:Env):Env->Prop where
 | nil:LeE env []
 | cons {t:Nat} {d d' : D} {r:Env}:env.lookup t=some d->LeD d d' -> LeE env r->LeE env ((t,d')::r)
inductive LeC:List D->List D->Prop where
 | nil:LeC [] []
 | cons {d d' : D} {r r' : List D}:LeD d d' -> LeC r r' -> LeC (d::r) (d' :: r')
inductive LeH:List (List D)->List (List D)->Prop where
 | nil:LeH [] []
 | cons {d d' : List D} {r r' : List (List D)}:LeC d d' -> LeH r r' -> LeH (d::r) (d' :: r')
theorem LeC.refl:∀ l,LeC l l
 | [] =>.nil
 | d::r =>.cons (.refl d) (LeC.refl r)
theorem LeH.refl:∀ l,LeH l l
 | [] =>.nil
 | d::r =>.cons (.refl d) (LeH.refl r)
theorem LeH.app{a a' b b' : List (List D)}(h:LeH a a')(k:LeH b b'):LeH (a++b) (a' ++ b'):=by
 induction h with
 | nil=>exact k
 | cons h1 _ ih=>exact .cons h1 ih
theorem LeE.look{env env' : Env}(h:LeE env env'):∀ {t:Nat} {d' : D},env'.lookup t=some d' -> ∃ d,env.lookup t=some d/\LeD d d' := by
 induction h with
 | nil=>intro t d' h; cases h
 | @cons t0 d d0 r hl hd _ ih =>
  intro t d' h;rw[List.lookup_cons] at h;by_cases ht:t=t0
  .subst ht;simp only[beq_self_eq_true,Option.some.injEq] at h;subst h;exact⟨d,hl,hd⟩
  .have hb:(t==t0)=false:=by simpa using ht
   rw[hb] at h;exact ih h
theorem LeC.get{l l' : List D}(h:LeC l l'):l.length=l'.length/\∀ (j:Nat) d', l'[j]? = some d' -> ∃ d,l[j]? = some d/\LeD d d' := by
 induction h with
 | nil=>exact⟨rfl,λj d' h=>by simp at h⟩
 | @cons d d0 r r' hd _ ih =>
  refine⟨by simp[ih.1],λj d' hj=>?_⟩;cases j with
  | zero=>simp at hj; subst hj; exact⟨d,rfl,hd⟩
  | succ j=>exact ih.2 j d' (by simpa using hj)
theorem LeH.get{l l' : List (List D)}(h:LeH l l'):l.length=l'.length/\∀ (j:Nat) d', l'[j]? = some d' -> ∃ d,l[j]? = some d/\LeC d d' := by
 induction h with
 | nil=>exact⟨rfl,λj d' h=>by simp at h⟩
 | @cons d d0 r r' hd _ ih =>
  refine⟨by simp[ih.1],λj d' hj=>?_⟩;cases j with
  | zero=>simp at hj; subst hj; exact⟨d,rfl,hd⟩
  | succ j=>exact ih.2 j d' (by simpa using hj)
theorem MapRows.le{C:Nat->Nat->Prop}{w:World}{ms ms' : List (List V)}{es:Array MapEntry}(h:MapRows C w ms es)(hl:ms.length=ms'.length)(hk:∀ (i:Nat) e e', ms[i]? = some e->ms'[i]? = some e' -> e.length=e'.length)
  (hv:∀ (i:Nat) e e', ms[i]? = some e->ms'[i]? = some e' -> ∀ (k:Nat) c c', e[k]? = some c->e'[k]? = some c' -> LeV c c'):MapRows C w ms' es:=by
 refine⟨by rw[<-hl]; exact h.1,λi m' e hm' he=>?_⟩;obtain⟨m,hm⟩:=Qgk hl hm';obtain⟨k,v,rfl,h1,h2⟩:=h.2 i m e hm he;have hlen:=hk i _ m' hm hm'
 match m', hlen,hm' with
 | [k', v'],_,hm' => exact⟨k', v', rfl,h1.le (hv i _ _ hm hm' 0 k k' rfl rfl),h2.le (hv i _ _ hm hm' 1 v v' rfl rfl)⟩
theorem VarAt.le{G:Gh}{w:World}{b:Nat}{cs cs' : List D}(h:VarAt G w b cs)(l1:cs'.length=cs.length)(l2:∀ (j:Nat) d', cs'[j]? = some d' -> ∃ d,cs[j]? = some d/\LeD d d'):VarAt G w b cs' := by
 cases h with
 | cells us ty h1 h2 h3 =>
  refine .cells us ty h1 (by rw[h2]; exact l1.symm) λj c' u hc' hu=>?_
  obtain⟨c,hc,hd⟩:=l2 j c' hc';obtain⟨g1,g2⟩:=h3 j c u hc hu;exact⟨g1,g2.le hd⟩
 | map fl ms es clock h1 h2 h3 =>
  subst h1
  match cs', l1,l2 with
  | [d'],_,l2 =>
   obtain⟨d,hd,hle⟩:=l2 0 d' rfl;have hd:D.tup [.p (.sl fl ms)]=d:=Option.some.inj hd;cases hle with
   | refl=>exact .map fl ms es clock (by rw[hd]) h2 h3
   | p=>cases hd
   | own=>cases hd
   | drop=>cases hd
   | @tup xs ys k =>
    injection hd with hd
    obtain⟨x,rfl,e⟩:=Q8q hd.symm;injection e with e
    subst e;obtain⟨k1,k2⟩:=k
    match ys,k1,k2 with
    | [y],_,k2 =>
     have hv:=k2 0 _ _ rfl rfl;cases hv with
     | refl=>exact .map fl ms es clock rfl h2 h3
     | sl _ f' _ ms' _ q1 q2 q3=>exact .map f' ms' es clock rfl h2 (h3.le q1 q2 q3)
theorem Inv.le{G:Gh}{h h' : List (List D)}{live:List Nat}{w:World}(hI:Inv G ⟨h,live⟩ w)(k:LeH h h'):Inv G ⟨h', live⟩ w:=by
 obtain⟨k1,k2⟩:=k.get;refine⟨hI.com,by rw[hI.names]; exact k1,hI.nodup,λi b cs' hb hcs' => ?_,hI.live,hI.tok,hI.pro,hI.glob⟩;obtain⟨cs,hcs,hle⟩:=k2 i cs' hcs';obtain⟨l1,l2⟩:=hle.get;exact(hI.var i b cs hb hcs).le l1.symm l2
theorem Le.weak{B:Nat×Nat}{N:Nat}{env env' : Env}{h h' : List (List D)}{live live' : List Nat}(he:LeE env env')(hh:LeH h h')(hl:live=live'):Le B N ⟨env,⟨h,live⟩⟩ ⟨env', ⟨h', live'⟩⟩:=⟨λG a w hR=>by
 subst hl;refine⟨G,.refl B G w,⟨hR.inv.le hh,λt d' hd=>?_,hR.size⟩⟩;obtain⟨d,h1,h2⟩:=he.look hd;obtain⟨k1,k2⟩:=hR.env t d h1;exact⟨k1,k2.le h2⟩⟩
theorem Le.tow(k m:Nat){B:Nat×Nat}{N:Nat}{env env1 env' : Env}{s:S}{h' : List (List D)}{live' : List Nat}(h:Q2z k m env=some env1)(he:LeE env1 env')(hh:LeH (s.heap.take k) h')(hlv:s.live.take m=live')
  (h1:B.1<=k:=by exact Nat.le_of_ble_eq_true rfl) (h2:B.2<=m:=by exact Nat.le_of_ble_eq_true rfl)
  (hl:(s.heap.take k).all (λcs=>cs.all (D.lt k m))=true:=by exact rfl):Le B N ⟨env,s⟩ ⟨env', ⟨h', live'⟩⟩ :=
 (Le.to k m (τ := ⟨env1,⟨s.heap.take k,s.live.take m⟩⟩) (by rw[h]; rfl) h1 h2 hl).trans (Le.weak he hh hlv)
def selE(env:Env):List Nat->Option Env
 | []=>some []
 | t::r=>match env.lookup t,selE env r with
  | some d,some l=>some ((t,d)::l)
  | _,_=>none
theorem Qaeo{env:Env}:∀ (l:List Nat) (env' : Env),selE env l=some env' -> LeE env env'
 | [],env', h=>by cases h; exact .nil
 | t::r,env', h=>by
  unfold selE at h;split at h
  .rename_i d l h1 h2;cases h;exact .cons h1 (.refl _) (Qaeo r l h2)
  .cases h
theorem Le.tz(k m:Nat){B:Nat×Nat}{N:Nat}{env env1 env' : Env}{s:S}{live' : List Nat}(h:Q2z k m env=some env1)(he:selE env1 (env'.map (·.1))=some env')(hlv:s.live.take m=live')
  (h1:B.1<=k:=by exact Nat.le_of_ble_eq_true rfl) (h2:B.2<=m:=by exact Nat.le_of_ble_eq_true rfl)
  (hl:(s.heap.take k).all (λcs=>cs.all (D.lt k m))=true:=by exact rfl):Le B N ⟨env,s⟩ ⟨env', ⟨s.heap.take k,live'⟩⟩:=Le.tow k m h (Qaeo _ _ he) (.refl _) hlv h1 h2 hl
theorem Le.ty(k m:Nat){B:Nat×Nat}{N:Nat}{env env' : Env}{s:S}{live' : List Nat}(h:((Q2z k m env).bind λe=>selE e (env'.map (·.1)))=some env' := by exact rfl)(hlv:s.live.take m=live' := by exact rfl)
  (h1:B.1<=k:=by exact Nat.le_of_ble_eq_true rfl) (h2:B.2<=m:=by exact Nat.le_of_ble_eq_true rfl)
  (hl:(s.heap.take k).all (λcs=>cs.all (D.lt k m))=true:=by exact rfl):Le B N ⟨env,s⟩ ⟨env', ⟨s.heap.take k,live'⟩⟩:=by
 cases hk:Q2z k m env with
 | none=>rw[hk] at h; cases h
 | some e=>rw[hk] at h; exact Le.tz k m hk h hlv h1 h2 hl
theorem xle{B:Nat×Nat}{N:Nat}{σ : St}{K:St->Prop}(h:K σ):∃ τ,Le B N σ τ /\ K τ := ⟨σ,.refl _ _ _,h⟩
section
variable {A C E:Type} {B:Nat×Nat} {N:Nat}
def JP1(B:Nat×Nat)(N:Nat)(o:A)(e1:Exit)(st1:A->St):Exit->St->Prop:=λe σ => e=e1/\Le B N σ (st1 o)
def JP2(B:Nat×Nat)(N:Nat)(o:A⊕C)(e1:Exit)(st1:A->St)(e2:Exit)(st2:C->St):Exit->St->Prop:=λe σ => (e=e1/\∃ y,o = .inl y/\Le B N σ (st1 y))\/(e=e2/\∃ y,o = .inr y/\Le B N σ (st2 y))
theorem JP1.a{o y:A}{e1:Exit}{st1:A->St}{σ : St}(h:some y=some o)(hl:Le B N σ (st1 y)):JP1 B N o e1 st1 e1 σ := by cases h; exact⟨rfl,hl⟩
theorem JP2.a{o:A⊕C}{y:A}{e1 e2:Exit}{st1:A->St}{st2:C->St}{σ : St}(h:some (.inl y)=some o)(hl:Le B N σ (st1 y)):JP2 B N o e1 st1 e2 st2 e1 σ := by cases h; exact .inl ⟨rfl,y,rfl,hl⟩
theorem JP2.b{o:A⊕C}{y:C}{e1 e2:Exit}{st1:A->St}{st2:C->St}{σ : St}(h:some (.inr y)=some o)(hl:Le B N σ (st2 y)):JP2 B N o e1 st1 e2 st2 e2 σ := by cases h; exact .inr ⟨rfl,y,rfl,hl⟩
theorem Qa5{o:A}{e1:Exit}{st1:A->St}{G:Exit->St->Prop}(k:G e1 (st1 o)):∀ e σ,JP1 B N o e1 st1 e σ -> ∃ τ,Le B N σ τ /\ G e τ := λe σ ⟨he,hl⟩=>he ▸ ⟨_,hl,k⟩
theorem Qke{o:A⊕C}{e1 e2:Exit}{st1:A->St}{st2:C->St}{G:Exit->St->Prop}(k1:∀ y,o = .inl y->G e1 (st1 y))(k2:∀ y,o = .inr y->G e2 (st2 y)):∀ e σ,JP2 B N o e1 st1 e2 st2 e σ -> ∃ τ,Le B N σ τ /\ G e τ := λe σ h=>by
 rcases h with ⟨he,y,ho,hl⟩ | ⟨he,y,ho,hl⟩
 .exact he ▸ ⟨_,hl,k1 y ho⟩
 .exact he ▸ ⟨_,hl,k2 y ho⟩
def JP2p(B:Nat×Nat)(N:Nat)(o:A⊕C)(e1:Exit)(st1:A->St)(e2:C->Exit)(st2:C->St):Exit->St->Prop:=λe σ => (e=e1/\∃ y,o = .inl y/\Le B N σ (st1 y))\/(∃ y,e=e2 y/\o = .inr y/\Le B N σ (st2 y))
theorem JP2p.a{o:A⊕C}{y:A}{e1:Exit}{e2:C->Exit}{st1:A->St}{st2:C->St}{σ : St}(h:some (.inl y)=some o)(hl:Le B N σ (st1 y)):JP2p B N o e1 st1 e2 st2 e1 σ := by cases h; exact .inl ⟨rfl,y,rfl,hl⟩
theorem JP2p.b{o:A⊕C}{y:C}{e1:Exit}{e2:C->Exit}{st1:A->St}{st2:C->St}{σ : St}(h:some (.inr y)=some o)(hl:Le B N σ (st2 y)):JP2p B N o e1 st1 e2 st2 (e2 y) σ := by cases h; exact .inr ⟨y,rfl,rfl,hl⟩
theorem Qakz{o:A⊕C}{e1:Exit}{e2:C->Exit}{st1:A->St}{st2:C->St}{G:Exit->St->Prop}(k1:∀ y,o = .inl y->G e1 (st1 y))(k2:∀ y,o = .inr y->G (e2 y) (st2 y)):∀ e σ,JP2p B N o e1 st1 e2 st2 e σ -> ∃ τ,Le B N σ τ /\ G e τ := λe σ h=>by
 rcases h with ⟨he,y,ho,hl⟩ | ⟨y,he,ho,hl⟩
 .exact he ▸ ⟨_,hl,k1 y ho⟩
 .exact he ▸ ⟨_,hl,k2 y ho⟩
end
theorem bT{φ ψ : Prop}(h : φ):(true=true -> φ)/\(true=false -> ψ):=And.intro (λ_=>h) (λe=>nomatch e)
theorem bF{φ ψ : Prop}(h : φ):(false=true -> ψ)/\(false=false -> φ):=And.intro (λe=>nomatch e) (λ_=>h)
theorem Q9e{sz:Nat}:∀ x ∈ ([]:List (List V)),x.length=sz:=λx hx=>nomatch hx
theorem Qu4{α : Type}{c : α -> List V}{l:List α}{sz:Nat}(h:∀ x,(c x).length=sz):∀ x ∈ l.map c,x.length=sz:=λx hx=>by
 obtain⟨z,-,rfl⟩:=List.mem_map.1 hx; exact h z
section
variable {R:Type}
theorem Qae{b:Bool}{X Y:Option R}{r:R}{φ ψ : Prop}(h:(if b=true then X else Y)=some r)(k1:b=true->X=some r -> φ)(k2:b=false->Y=some r -> ψ):(b=true -> φ)/\(b=false -> ψ) :=
 ⟨λe=>k1 e (by rw[e] at h; exact h),λe=>k2 e (by rw[e] at h; exact h)⟩
theorem Qaj{α : Type}{x:Option α}{f : α -> Option R}{r:R}{φ : Prop}(h:(x>>=f)=some r)(k:∀ y,x=some y->f y=some r -> φ) : φ := by
 obtain⟨y,hy,hf⟩:=Option.bind_eq_some_iff.1 h;exact k y hy hf
def idx{α : Type}(l:List α)(i:Int):Option α := if 0<=i then l[i.toNat]? else none
theorem Qbu{α : Type}{l:List α}{i:Int}{c c' : α -> List V}{f : α -> Option R}{r:R}{sz:Nat}{K:List V->Prop}(h:(idx l i>>=f)=some r)(hc:∀ x,c x=c' x)(hs:∀ x,(c' x).length=sz)(hz:0<sz)(k:∀ x,idx l i=some x->f x=some r->K (c' x)) :
  ∃ cell,0<=i/\(l.map c)[i.toNat]? = some cell/\cell.length=sz/\0<sz/\K cell:=by
 refine Qaj h λx hx hf=>?_
 have hk:=k x hx hf;unfold idx at hx;split at hx
 .rename_i hi;exact⟨c' x,hi,by rw[List.getElem?_map,hx,Option.map_some,hc],hs x,hz,hk⟩
 .cases hx
theorem Qdy{l:List UInt8}{i:Int}{f:UInt8->Option R}{r:R}{K:UInt8->Prop}(h:(idx l i>>=f)=some r)(k:∀ x,idx l i=some x->f x=some r->K x):∃ c,0<=i/\l[i.toNat]? = some c/\K c:=by
 refine Qaj h λx hx hf=>?_
 have hk:=k x hx hf;unfold idx at hx;split at hx
 .rename_i hi;exact⟨x,hi,hx,hk⟩
 .cases hx
def need(p:Prop)[Decidable p]:Option Unit:=if p then some () else none
theorem Qx5{p:Prop}[Decidable p]{f:Unit->Option R}{r:R}{φ : Prop}(h:(need p>>=f)=some r)(k:f ()=some r -> φ):p /\ φ := by
 refine Qaj h λx hx hf=>?_
 unfold need at hx;split at hx
 .exact⟨by assumption,k hf⟩
 .cases hx
def cutL{α : Type}(l:List α)(lo hi:Int):Option (List α):=if 0<=lo/\lo<=hi/\hi<=l.length then some ((l.take hi.toNat).drop lo.toNat) else none
def appL{α : Type}(bytes:Nat)(a b:List α):Option (List α):=if(a.length+b.length)*bytes<=140737488355328/\a.length+b.length<=9223372036854775807 then some (a++b) else none
theorem view{d d' : D}{l live:List Nat}{K:D->List Nat->Prop}(h:LeD d d')(hl:live=l)(k:K d' live):∃ d' live,LeD d d' /\ live=l/\K d' live:=⟨d', live,h,hl,k⟩
theorem vrfl{d:D}{l:List Nat}{K:D->List Nat->Prop}(k:K d l):∃ d' live,LeD d d' /\ live=l/\K d' live:=⟨d,l,.refl d,rfl,k⟩
theorem Qcz{α : Type}(l:List α)(c : α -> List V):LeD (.p (.v (.int .i64 (l.map c).length))) (.p (.v (.int .i64 l.length))) :=.eq (by rw[List.length_map])
theorem Qak0{α : Type}{l m:List α}{lo hi:Int}(c : α -> List V)(h:cutL l lo hi=some m):Q2l (some lo) (some hi) (l.map c).length/\((l.map c).take hi.toNat).drop lo.toNat=m.map c:=by
 unfold cutL at h;split at h
 .rename_i hc;cases h;refine⟨⟨hc.1,hc.2.1,by rw[List.length_map]; exact hc.2.2⟩,by rw[List.map_drop,List.map_take]⟩
 .cases h
theorem Qak1{l m:List UInt8}{lo hi:Int}(h:cutL l lo hi=some m):Q2l (some lo) (some hi) l.length/\(l.take hi.toNat).drop lo.toNat=m:=by
 unfold cutL at h;split at h
 .rename_i hc;cases h;exact⟨⟨hc.1,hc.2.1,hc.2.2⟩,rfl⟩
 .cases h
theorem Qaa6{α : Type}{bytes:Nat}{a b o:List α}{c : α -> List V}{fs:List (List V)}{sz:Nat}(h:appL bytes a b=some o)(hf:LeLL fs (b.map c))(hs:∀ x,(c x).length=sz) :
  ((∀ x ∈ fs,x.length=sz)/\((a.map c).length+fs.length)*bytes<=140737488355328/\(a.map c).length+fs.length<=9223372036854775807)/\LeLL (a.map c++fs) (o.map c)/\(a.map c++fs).length=o.length/\∀ x ∈ a.map c,x.length=sz:=by
 unfold appL at h;split at h
 .rename_i hc;cases h;have hl:fs.length=b.length:=by rw[hf.1,List.length_map]
  refine⟨⟨λx hx=>?_,by rw[List.length_map,hl]; exact hc.1,by rw[List.length_map,hl]; exact hc.2⟩,by rw[List.map_append]; exact .app (.refl _) hf,by simp[hl],λx hx=>?_⟩
  .obtain⟨i,hi⟩:=List.getElem?_of_mem hx;obtain⟨y,hy⟩:=Qgk hf.1.symm hi;rw[(hf.2 i x y hi hy).1];obtain⟨z,-,rfl⟩:=List.mem_map.1 (List.mem_of_getElem? hy);exact hs z
  .obtain⟨z,-,rfl⟩:=List.mem_map.1 hx;exact hs z
 .cases h
theorem Qak2{α R:Type}{l:List α}{c : α -> List V}(lo hi:Option Int){f:List α -> Option R}{r:R}{full:Bool}{lv:List Nat}{K:D->List Nat->Prop}{sz:Nat}(h:(cutL l (lo.getD 0) (hi.getD l.length)>>=f)=some r)(hs:∀ x,(c x).length=sz)
  (k:∀ m,cutL l (lo.getD 0) (hi.getD l.length)=some m->f m=some r->K (.p (.sl (full&&hi.isNone) (m.map c))) lv) :
  Q2l lo hi (l.map c).length/\(lo=none\/∀ x ∈ l.map c,x.length=sz)/\∃ d' live,LeD (.p (.sl (full&&hi.isNone) (((l.map c).take (hi.getD (l.map c).length).toNat).drop (lo.getD 0).toNat))) d' /\ live=lv/\K d' live:=by
 refine Qaj h λm hm hf=>?_
 obtain⟨⟨h1,h2,h3⟩,h4⟩:=Qak0 c hm;have e:(hi.getD (l.map c).length)=hi.getD (l.length:Int):=by rw[List.length_map]
 refine⟨⟨h1,?_,?_⟩,.inr λx hx=>?_,_,_,.eq ?_,rfl,k m hm hf⟩
 .rw[e]; exact h2
 .rw[e]; exact h3
 .obtain⟨z,-,rfl⟩:=List.mem_map.1 hx; exact hs z
 .rw[e,h4]
theorem Qmr{R:Type}{l:List UInt8}(lo hi:Option Int){f:List UInt8->Option R}{r:R}{lv:List Nat}{K:D->List Nat->Prop}(h:(cutL l (lo.getD 0) (hi.getD l.length)>>=f)=some r)
  (k:∀ m,cutL l (lo.getD 0) (hi.getD l.length)=some m->f m=some r->K (.p (.v (Qd1 m))) lv) :
  Q2l lo hi l.length/\∃ d' live,LeD (.p (.v (Qd1 ((l.take (hi.getD l.length).toNat).drop (lo.getD 0).toNat)))) d' /\ live=lv/\K d' live:=by
 refine Qaj h λm hm hf=>?_
 obtain⟨⟨h1,h2,h3⟩,h4⟩:=Qak1 hm;exact⟨⟨h1,h2,h3⟩,_,_,.eq (by rw[h4]),rfl,k m hm hf⟩
theorem Qms{α R:Type}{bytes:Nat}{a b:List α}{c : α -> List V}{fs:List (List V)}{sz tk e:Nat}{f:List α -> Option R}{r:R}{lv:List Nat}{K:D->List Nat->Prop}(h:(appL bytes a b>>=f)=some r)(hf:LeLL fs (b.map c))(hs:∀ x,(c x).length=sz)
  (hl:lv[tk]? = some (a.map c).length) (k:∀ o,appL bytes a b=some o->f o=some r->K (.own tk e sz (o.map c)) (lv.set tk (o.map c).length)) :
  lv[tk]? = some (a.map c).length/\((∀ x ∈ fs,x.length=sz)/\((a.map c).length+fs.length)*bytes<=140737488355328/\(a.map c).length+fs.length<=9223372036854775807) /\
   ∃ d' live,LeD (.own tk e sz (a.map c++fs)) d' /\ live=lv.set tk (a.map c++fs).length/\K d' live:=by
 refine Qaj h λo ho hk=>?_
 obtain⟨h1,h2,h3,-⟩:=Qaa6 ho hf hs;exact⟨hl,h1,_,_,.own h2,by rw[h2.1],k o ho hk⟩
theorem Qai3{α R:Type}{bytes:Nat}{a b:List α}{c : α -> List V}{es fs:List (List V)}{sz e:Nat}{f:List α -> Option R}{r:R}{lv:List Nat}{K:D->List Nat->Prop}(h:(appL bytes a b>>=f)=some r)(he:LeLL es (a.map c))(hf:LeLL fs (b.map c))(hs:∀ x,(c x).length=sz)(hcl:a.length=0\/0<b.length)
  (k:∀ o,appL bytes a b=some o->f o=some r->K (.own lv.length e sz (o.map c)) (lv++[(o.map c).length])) :
  (es.length=0\/0<fs.length)/\(∀ x ∈ es,x.length=sz)/\((∀ x ∈ fs,x.length=sz)/\(es.length+fs.length)*bytes<=140737488355328/\es.length+fs.length<=9223372036854775807) /\
   ∃ d' live,LeD (.own lv.length e sz (es++fs)) d' /\ live=lv++[(es++fs).length]/\K d' live:=by
 refine Qaj h λo ho hk=>?_
 obtain⟨h1,h2,h3,h4⟩:=Qaa6 ho hf hs;have hl:es.length=(a.map c).length:=he.1;have h5:LeLL (es++fs) (o.map c):=by
  unfold appL at ho;split at ho
  .cases ho; rw[List.map_append]; exact .app he hf
  .cases ho
 refine⟨by rw[hl,List.length_map,hf.1,List.length_map]; exact hcl,λx hx=>?_,by rw[hl]; exact h1,_,_,.own h5,by rw[h5.1],k o ho hk⟩;obtain⟨i,hi⟩:=List.getElem?_of_mem hx;obtain⟨y,hy⟩:=Qgk he.1.symm hi;rw[(he.2 i x y hi hy).1];exact h4 y (List.mem_of_getElem? hy)
theorem LeL.ceq{xs ys zs:List V}(h:ys=zs)(k:LeL xs zs):LeL xs ys:=h ▸ k
end
theorem PCall.weak{f:FuncId}{xs ys:List V}{r:D}(h:PCall P f ys r)(k:LeL xs ys):PCall P f xs r :=
 ⟨h.fn,λC w us hgl hl hrel=>h.out C w us hgl (by rw[hl]; exact k.1) λj y u hy hu=>by
  obtain⟨x,hx⟩:=Qgk k.1 hy;exact(hrel j x u hx hu).le (k.2 j x y hx hy)⟩
theorem Qm9{f:FuncId}{fn:Func}{c:Code}{us:Array Value}{G:Gh}{w:World}{B:Nat×Nat}{Q:Exit->St->Prop}{σ0:St}{R:Ending->World->Prop}(hf:P.funcs[f]? = some fn)(hb:fn.body=some c)(h:T B P fn.ntmps c Q σ0)
  (hR:Rel fn.ntmps G σ0 { tmps:=us++Array.replicate (fn.ntmps-us.size) undef,defers:=[] } w)
  (hQ:∀ e G' σ' a' w', Ex B G w G' w' -> Rel fn.ntmps G' σ' a' w' -> Q e σ' -> (e = .normal\/e = .ret)/\∃ v,(results fn a'.tmps).run P w' = .ok v w' /\ R (.returned v) w'):Calls P f us w R:=by
 refine callsIn_wide.1 (callsIn_of_wp_marks (F:=Fence.wide) (n:=0) hf hb trivial (wpIn_mono (h.out none ⟨w.heap.size,[]⟩ G _ w hR (.none rfl)) ?_));rintro e a' w' ⟨G', σ', hE,hR', hF', hq⟩;have key:∀ (Ds:List Nat) (w' : World),Ds.Nodup->Ex B G w G' w' -> Rel fn.ntmps G' σ' a' w' -> (∀ b ∈ Ds,w.heap.size<=b/\w'.heap[b]? = some (.deferred (some []))/\b ∉ G'.name/\∀ T ∈ G'.tok,¬ T.has b)->LeavesInM Fence.wide 0 P fn a'.tmps R (Ds.map Ql6) .returning w' := by
  intro Ds
  induction Ds with
  | nil=>exact λw' _ hE hR' _=>(hQ e G' σ' a' w' hE hR' hq).2
  | cons b Ds ih =>
   intro w' hnd hE hR' hD;obtain⟨d1,d2,d3,d4⟩:=hD b (by simp);have hnb:¬ G'.has b:=λhh=>hh.elim d3 λ⟨T,hT,ht⟩=>d4 T hT ht
   have hk:Kept G'.has G'.com w' (w'.putObj b (.deferred none)):=Qgx _ d2 (Qsk d2) hnb;refine⟨by simp,.inl ⟨b,_,rfl,run_takeDeferred d2,ih _ (List.nodup_cons.1 hnd).2 (hE.kept hk λi hi=>World.putObj_heap_other (by omega)) (hR'.kept hk) λi hi=>?_⟩⟩;obtain⟨k1,k2,k3⟩:=hD i (by simp[hi]);refine⟨k1,?_,k3⟩;rw[World.putObj_heap_other (λ(e:i=b)=>(List.nodup_cons.1 hnd).1 (e ▸ hi))];exact k2
 obtain⟨Ds,m1,m2,m3⟩:=hF'.marks;have hl:=key Ds w' m2 hE hR' m3;rw[List.append_nil] at m1;rw[<-m1] at hl;rcases (hQ e G' σ' a' w' hE hR' hq).1 with rfl | rfl
 .exact hl
 .exact hl
theorem PCall.ofB(hm:P.follows .mixedOrders=true)(hT:TblOk P tb){f:FuncId}{fn:Func}{c:Code}(lv:List (Nat×List Nat))(hf:P.funcs[f]? = some fn)(hb:fn.body=some c)(hn:isFn P f=true){args:List V}(hN:args.length<=fn.ntmps){r:D}
  (h:bwp (0,0) P tb fn.ntmps lv c (retQ tb fn.results.toList λd=>LeD d r) ⟨Qv7 args 0,⟨[],[]⟩⟩):PCall P f args r:=by
 refine⟨hn,λC w us hgl hl hrel=>?_⟩;have hR:Rel fn.ntmps ⟨λb o=>C b o/\b<w.heap.size,[],[]⟩ ⟨Qv7 args 0,⟨[],[]⟩⟩ { tmps:=us++Array.replicate (fn.ntmps-us.size) undef,defers:=[] } w:=by
  refine⟨⟨λb o h=>⟨h.2,by simp,by simp⟩,rfl,by simp,λi b cs h=>by simp at h,rfl,λt T b h=>by simp at h,λT h=>by simp at h,hgl.mono λb o u h1 h2=>⟨⟨h1,Qxe h2⟩,h2⟩⟩,λt d hd=>?_,by simp; omega⟩;obtain⟨x,h1,h2,rfl⟩:=Qq3 args 0 t d hd;have hlt:t<args.length:=(List.getElem?_eq_some_iff.1 h1).1;have hlt2:t<us.size:=by omega
  refine⟨by simp; omega,.p x _ (DRel.lt ?_)⟩;refine hrel t x _ h1 ?_;simp only[Array.getD_eq_getD_getElem?,Array.getElem?_append_left hlt2,Array.getElem?_eq_getElem hlt2,Option.getD_some]
 refine Qm9 hf hb (Qaq hm hT c _ _ h) hR λe G' σ' a' w' hE hR' hq=>?_
 have key:∀ (hq:Qgh tb σ' fn.results.toList λds=>match retD ds with | some d=>LeD d r | none=>False),∃ v,(results fn a'.tmps).run P w' = .ok v w' /\
   ∃ u,Ending.returned v = .returned u/\DRel ⟨λb o=>C b o\/w.heap.size<=b,[],[]⟩ w' r u/\Below w.heap.size w w' := λhq=>by
  obtain⟨ds,us', h1,h2,h3,h4⟩:=Qfp hT hR' _ _ hq;split at h4
  .rename_i d hd;obtain⟨k1,k2⟩:=Q2y h2 h3 hd;refine⟨if h:us'.toArray.size=1 then us'.toArray[0] else .tuple us'.toArray,?_,_,rfl,DRel.le ?_ h4,⟨hE.ext.os,hE.ext.tape,hE.ext.output,hE.ext.size,λk hk=>hE.ext.old k hk (by simp) (by simp)⟩⟩
   .unfold results;rw[Sem.run_bind,Array.mapM_eq_mapM_toList,Sem.run_map]
    erw [h1]
    rfl
   .have hcom:∀ b o,G'.com b o->C b o\/w.heap.size<=b:=λb o hc=>by
     rcases hE.ext.new b o hc with h | h | h | ⟨T,h,_⟩
     .exact .inl h.1
     .exact .inr h
     .simp at h
     .simp at h
    rcases k2 with ⟨x,rfl⟩ | ⟨xs,rfl⟩
    .generalize (if h:us'.toArray.size=1 then us'.toArray[0] else Value.tuple us'.toArray)=q at k1;cases k1 with
     | p _ _ k1=>exact .p _ _ (k1.mono (Nat.le_refl _) λb o u h1 h2=>⟨hcom b o h1,h2⟩)
    .generalize (if h:us'.toArray.size=1 then us'.toArray[0] else Value.tuple us'.toArray)=q at k1;cases k1 with
     | tup _ vs l1 l2 =>
      refine .tup _ _ l1 (λj c u hc hu=>?_);have:=l2 j c u hc hu;rw[List.getElem?_map] at hc;obtain⟨x,-,rfl⟩:=Option.map_eq_some_iff.1 hc;cases this with
      | p _ _ k1=>exact .p _ _ (k1.mono (Nat.le_refl _) λb o u h1 h2=>⟨hcom b o h1,h2⟩)
  .exact h4.elim
 cases e with
 | normal=>exact⟨.inl rfl,key hq⟩
 | ret=>exact⟨.inr rfl,key hq⟩
 | _=>exact hq.elim
theorem Qas{α R:Type}{x:Option α}{f : α -> Option R}{r:R}{g:FuncId}(xs:List V)(t : α -> D){gn:Bool}{s:S}{K:D->S->Prop}(h:(x>>=f)=some r)(hok:∀ y,x=some y->PCall P g xs (t y))(k:∀ y,x=some y->f y=some r->K (t y) s) :
  ∃ r s', Q8h gn P g (xs.map .p) s r s' /\ K r s' := Qaj h λy hy hf=>⟨t y,s,(hok y hy).c,k y hy hf⟩
theorem Qda{α R:Type}{x:Option α}{f : α -> Option R}{r:R}{g:FuncId}(xs:List V)(t : α -> D){base:Nat}{s:S}{K:D->S->Prop}(h:(x>>=f)=some r)(hok:∀ y,x=some y->PCall P g xs (t y))(k:∀ y,x=some y->f y=some r->K (t y) s) :
  ∃ r s', Qach base P g (xs.map .p) s r s' /\ K r s' := Qaj h λy hy hf=>⟨t y,s,(hok y hy).d,k y hy hf⟩
theorem Qam{α R:Type}{x:Option α}{f : α -> Option R}{r:R}{g:FuncId}{args:List D}{s:S}(t : α -> D)(s' : α -> S){K:D->S->Prop}(h:(x>>=f)=some r)(hok:∀ y,x=some y->CallOK P g args s (t y) (s' y))(k:∀ y,x=some y->f y=some r->K (t y) (s' y)) :
  ∃ r s', Q8h true P g args s r s' /\ K r s' := Qaj h λy hy hf=>⟨t y,s' y,(hok y hy).g,k y hy hf⟩
theorem Qq8{α R:Type}{x:Option α}{f : α -> Option R}{r:R}{g:FuncId}{args:List D}{s:S}{base:Nat}(t : α -> D)(s' : α -> S){K:D->S->Prop}(h:(x>>=f)=some r)(hok:∀ y,x=some y->Qagz base P g args s (t y) (s' y))(k:∀ y,x=some y->f y=some r->K (t y) (s' y)) :
  ∃ r s', Qagz base P g args s r s' /\ K r s' := Qaj h λy hy hf=>⟨t y,s' y,hok y hy,k y hy hf⟩
theorem Qob{α R:Type}{x:Option α}{f : α -> Option R}{r:R}{g:FuncId}{args:List D}{s:S}{base:Nat}(t : α -> D){K:D->S->Prop}(h:(x>>=f)=some r)(hok:∀ y,x=some y->Qach base P g args s (t y) s)(k:∀ y,x=some y->f y=some r->K (t y) s) :
  ∃ r s', Qach base P g args s r s' /\ K r s' := Qaj h λy hy hf=>⟨t y,s,hok y hy,k y hy hf⟩
theorem CallX.weakC{E:Value->Ending}{f:FuncId}{args args' : List D}{s:S}{r:D}{s' : S}(k:CallX E P f args' s r s')(h:LeC args args'):CallX E P f args s r s' := k.weak h.get.1 h.get.2
def Qaco(m n:Nat)(J:List Nat):Bool:=Qvn J&&J.all (Nat.blt · n)&&(J.take m==List.range m)
theorem Qtn{n i:Nat}(h:i<n):(List.range n)[i]? = some i:=List.getElem?_range h
theorem Qx6{α : Type}(A B:List α)(d : α):(List.range A.length).map ((A++B).getD · d)=A:=by
 apply List.ext_getElem?;intro i;rw[List.getElem?_map];by_cases h:i<A.length
 .rw[Qtn h];simp[List.getD,List.getElem?_append_left h,h]
 .rw[List.getElem?_eq_none (by simpa using Nat.le_of_not_lt h),List.getElem?_eq_none (Nat.le_of_not_lt h)]; rfl
theorem Qaep{G G' : Gh}{w w' : World}{n m:Nat}{J:List Nat}(hE:Ex (n,m) G w G' w')(hn:G.name.length=n)(hm:G.tok.length=m)(hn' : n<=G'.name.length)(hJ:∀ j ∈ J,j<G'.tok.length)(hid:J.take m=List.range m):Stp G w (G'.sub (List.range n) J) w' := by
 have hI:∀ i ∈ List.range n,i<G'.name.length:=λi hi=>by have:=List.mem_range.1 hi; omega
 refine⟨⟨hE.ext.os,hE.ext.tape,hE.ext.output,hE.ext.size,hE.ext.com,hE.ext.old,hE.ext.new,λb hb=>?_,hE.ext.mono,hE.ext.shp⟩,λnm b hb=>?_,λt T ht=>?_⟩
 .rcases hb with hb | ⟨T,hT,hb⟩
  .exact hE.ext.mine b (.inl (Qfq hI hb))
  .exact hE.ext.mine b (.inr ⟨T,Qfq hJ hT,hb⟩)
 .have hl:nm<n:=by rw[<-hn]; exact(List.getElem?_eq_some_iff.1 hb).1
  rw[Qn7 (Qtn hl) (by omega)];exact hE.name nm b hl hb
 .have hl:t<m:=by rw[<-hm]; exact(List.getElem?_eq_some_iff.1 ht).1
  obtain⟨T', h1,h2⟩:=hE.tok t T hl ht;have hJt:J[t]? = some t:=by
   have:=congrArg (·[t]?) hid;simp only[List.getElem?_take,if_pos hl,Qtn hl] at this;exact this
  exact⟨T', by rw[Qpz hJt (hJ t (List.mem_of_getElem? hJt))]; exact h1,h2⟩
structure EndR (n m:Nat) (s' : S) (r d:D) (t:S):Prop where
 ex:∃ J,Qaco m t.live.length J=true/\LeD d (r.ren (List.range n) J)/\LeH (t.heap.take n) (s'.heap.map λcs=>cs.map (D.ren (List.range n) J))/\J.map (t.live.getD · 0)=s'.live
theorem CallOK.ofT(hT:TblOk P tb){f:FuncId}{fn:Func}{c:Code}(hf:P.funcs[f]? = some fn)(hb:fn.body=some c)(hn:isFn P f=true){args:List D}(hN:args.length<=fn.ntmps){s s' : S}{r:D}
  (hr:r.lt s.heap.length s'.live.length=true) (hs:s'.heap.all (λcs=>cs.all (D.lt s.heap.length s'.live.length))=true)
  (hn' : s'.heap.length=s.heap.length)
  (h:T (s.heap.length,s.live.length) P fn.ntmps c (λe σ => ∃ τ,Le (s.heap.length,s.live.length) fn.ntmps σ τ /\ retR tb fn.results.toList (EndR s.heap.length s.live.length s' r) e τ) ⟨Qsi args 0,s⟩):CallOK P f args s r s' := by
 refine⟨hn,λG w us hI hl hrel=>?_⟩;have hR:Rel fn.ntmps G ⟨Qsi args 0,s⟩ { tmps:=us++Array.replicate (fn.ntmps-us.size) undef,defers:=[] } w:=by
  refine⟨hI,λt d hd=>?_,by simp; omega⟩;obtain⟨h1,h2⟩:=Qm8 args 0 t d hd;have hlt:t<args.length:=(List.getElem?_eq_some_iff.1 h1).1;have hlt2:t<us.size:=by omega
  refine⟨by simp; omega,?_⟩;refine hrel t d _ h1 ?_;simp only[Array.getD_eq_getD_getElem?,Array.getElem?_append_left hlt2,Array.getElem?_eq_getElem hlt2,Option.getD_some]
 have hln:G.name.length=s.heap.length:=hI.names;have hlt:G.tok.length=s.live.length:=by rw[<-hI.live]; simp
 refine Qm9 hf hb (T_up h λe σ' hq=>hq) hR λe G' σ' a' w' hE hR' hq=>?_
 have key:∀ (hq:Qgh tb σ' fn.results.toList λds=>EndR s.heap.length s.live.length s' r (retE ds) σ'.s),∃ v,(results fn a'.tmps).run P w' = .ok v w' /\
   ∃ u G', Ending.returned v = .returned u/\Stp G w G' w' /\ Inv G' s' w' /\ DRel G' w' r u:=λhq=>by
  obtain⟨ds,us', h1,h2,h3,⟨J,hJ0,h4,h5,h6⟩⟩:=Qfp hT hR' _ _ hq;unfold Qaco at hJ0;simp only[Bool.and_eq_true] at hJ0;obtain⟨⟨hJ1,hJ2⟩,hJ3⟩:=hJ0;have nJ:=Qc7 J hJ1;have bJ:=Qkd hJ2;have lT:G'.tok.length = σ'.s.live.length:=by have:=congrArg List.length hR'.inv.live; simpa using this
  have hd:=(Qagr h2 h3).le h4;have h7:=LeH.app h5 (LeH.refl (σ'.s.heap.drop s.heap.length));rw[List.take_append_drop] at h7;have hinv1:=Inv.le (h := σ'.s.heap) (live := σ'.s.live) hR'.inv h7;have hlen:(s'.heap.map λcs=>cs.map (D.ren (List.range s.heap.length) J)).length=s.heap.length:=by rw[List.length_map]; exact hn'
  have hlJ:J.length=s'.live.length:=by rw[<-h6]; simp
  have hnl:s.heap.length<=G'.name.length:=by rw[hinv1.names]; simp only[List.length_append,hlen]; omega
  have hinv2:Inv (G'.sub (List.range s.heap.length) J) ⟨s'.heap,s'.live⟩ w' := hinv1.sub (I:=List.range s.heap.length) (J:=J) List.nodup_range nJ (λi hi=>by have:=List.mem_range.1 hi; simp only[List.length_append,hlen]; omega) bJ (by
   have:=Qx6 (s'.heap.map λcs=>cs.map (D.ren (List.range s.heap.length) J)) (σ'.s.heap.drop s.heap.length) [];rw[hlen] at this;exact this) h6 (by rw[List.length_range,hlJ]; exact hs)
  have hst:Stp G w (G'.sub (List.range s.heap.length) J) w' := Qaep hE hln hlt hnl (λj hj=>by rw[lT]; exact bJ j hj) (by simpa using hJ3);refine⟨if h:us'.toArray.size=1 then us'.toArray[0] else .tuple us'.toArray,?_,_,_,rfl,hst,hinv2,Q20 (λi hi=>by have:=List.mem_range.1 hi; omega) (λj hj=>by rw[lT]; exact bJ j hj) (by rw[List.length_range,hlJ]; exact hr) hd⟩;unfold results;rw[Sem.run_bind,Array.mapM_eq_mapM_toList,Sem.run_map]
  erw [h1]
  rfl
 cases e with
 | normal=>exact⟨.inl rfl,key hq⟩
 | ret=>exact⟨.inr rfl,key hq⟩
 | _=>exact hq.elim
theorem CallOK.ofB(hm:P.follows .mixedOrders=true)(hT:TblOk P tb){f:FuncId}{fn:Func}{c:Code}(lv:List (Nat×List Nat))(hf:P.funcs[f]? = some fn)(hb:fn.body=some c)(hn:isFn P f=true){args:List D}(hN:args.length<=fn.ntmps){s s' : S}{r:D}
  (hr:r.lt s.heap.length s'.live.length=true) (hs:s'.heap.all (λcs=>cs.all (D.lt s.heap.length s'.live.length))=true)
  (hn' : s'.heap.length=s.heap.length)
  (h:bwp (s.heap.length,s.live.length) P tb fn.ntmps lv c (λe σ => ∃ τ,Le (s.heap.length,s.live.length) fn.ntmps σ τ /\ retR tb fn.results.toList (EndR s.heap.length s.live.length s' r) e τ) ⟨Qsi args 0,s⟩):CallOK P f args s r s' :=
 CallOK.ofT hT hf hb hn hN hr hs hn' (Qaq hm hT c _ _ h)
theorem Qb2{α : Type}{x y : α}{d:D}{u:S}{n m:Nat}{t : α -> D}{ss : α -> S}(h:some x=some y)(k:EndR n m (ss x) (t x) d u):EndR n m (ss y) (t y) d u:=by cases h; exact k
theorem Qan{α : Type}{x y : α}{d:D}{t : α -> D}(h:some x=some y)(k:LeD d (t x)):LeD d (t y):=by cases h; exact k
end
section
variable {P:Program} {tb:Tbl}
def pubC(heap:List (List D)):D->Option V
 | .ptr nm off=>match heap[nm]? with
  | some cs=>(unps cs).map λvs =>.ep (vs.drop off)
  | none=>none
 | d=>unp d
def pubL(heap:List (List D)):List D->Option (List V)
 | []=>some []
 | d::r=>match pubC heap d,pubL heap r with
  | some x,some y=>some (x::y)
  | _,_=>none
def pubD(heap:List (List D)):D->Option D
 | .fn f [] cap=>(pubL heap cap).map λvs =>.fn f [] (vs.map .p)
 | .agg cs=>(pubL heap cs).map λvs =>.p (.agg vs)
 | d=>(pubC heap d).map .p
def pubR(heap:List (List D)):List D->Option D
 | [d]=>pubD heap d
 | ds=>(pubL heap ds).map λxs =>.tup (xs.map .p)
theorem Q13:∀ {cs:List D} {vs:List V},unps cs=some vs->Qaby cs=true
 | [],_,_=>rfl
 | d::r,vs,h=>by
  unfold unps at h;split at h
  .rename_i x y hx hy;have ih:=Q13 hy;cases d with
   | p x=>exact ih
   | own t e s es=>exact ih
   | _=>cases hx
  .cases h
theorem Qw4{G:Gh}{s:S}{w:World}(hI:Inv G s w){d:D}{x:V}{u:Value}(h:DRel G w d u)(hd:pubC s.heap d=some x):VRel (λb o=>G.com b o\/b ∈ G.name) w x u:=by
 have up:∀ {y:V} {v:Value},VRel G.com w y v->VRel (λb o=>G.com b o\/b ∈ G.name) w y v:=λh=>h.mono (Nat.le_refl _) λb o u h1 h2=>⟨.inl h1,h2⟩
 unfold pubC at hd;split at hd
 .rename_i nm off;cases h with
  | ptr _ _ b hb =>
   split at hd
   .rename_i cs hcs;obtain⟨vs,hv,rfl⟩:=Option.map_eq_some_iff.1 hd;obtain⟨us,ty,h1,h2,h3⟩:=(hI.var nm b cs hb hcs).row (Q13 hv);obtain⟨l1,l2⟩:=Qhm (G:=G) (w:=w) cs vs hv;refine .ep _ b off (λk=>us.getD (off+k) undef) (λk c hk=>?_) (λk c hk=>?_)
    all_goals
     rw[List.getElem?_drop] at hk;obtain⟨d,hd,hx⟩:=l2 _ c hk;have hlt:off+k<us.size:=by rw[h2]; exact(List.getElem?_eq_some_iff.1 hd).1
     obtain⟨g1,g2⟩:=h3 _ d us[off+k] hd (Array.getElem?_eq_getElem hlt);have hg:us.getD (off+k) undef=us[off+k]:=by simp[Array.getD_eq_getD_getElem?,hlt]
    .refine⟨.inr (List.mem_of_getElem? hb),?_,by rw[hg]; exact g1⟩;rw[cell_of_row w b _ us ty (0,0) h1,hg];exact Array.getElem?_eq_getElem hlt
    .show VRel _ w c (us.getD (off+k) undef);rw[hg]; exact up (Qfe g2 hx)
   .cases hd
 .exact up (Qfe h hd)
theorem Qw5{G:Gh}{s:S}{w:World}(hI:Inv G s w):∀ (ds:List D) (xs:List V),pubL s.heap ds=some xs->xs.length=ds.length/\∀ (j:Nat) x,xs[j]? = some x->∃ d,ds[j]? = some d/\pubC s.heap d=some x
 | [],xs,h=>by simp[pubL] at h; subst h; exact⟨rfl,λj x hx=>by simp at hx⟩
 | d::r,xs,h=>by
  unfold pubL at h;split at h
  .rename_i x y hx hy;cases h;obtain⟨h1,h2⟩:=Qw5 hI r y hy;refine⟨by simp[h1],λj z hz=>?_⟩;cases j with
   | zero=>simp at hz; subst hz; exact⟨d,rfl,hx⟩
   | succ j=>exact h2 j z hz
  .cases h
theorem Qag5{G:Gh}{s:S}{w:World}(hI:Inv G s w){d d' : D}{u:Value}(h:DRel G w d u)(hd:pubD s.heap d=some d'):DRel ⟨λb o=>G.com b o\/b ∈ G.name,[],[]⟩ w d' u:=by
 unfold pubD at hd;split at hd
 .rename_i f cap;obtain⟨vs,hv,rfl⟩:=Option.map_eq_some_iff.1 hd;obtain⟨l1,l2⟩:=Qw5 hI cap vs hv;cases h with
  | fn _ _ _ us ws k1 k2 k3 k4 =>
   refine .fn f [] _ us ws k1 (by simp[l1,k2]) (λj c u hc=>by simp at hc) (λj c u hc hu=>?_);rw[List.getElem?_map] at hc;obtain⟨x,hx,rfl⟩:=Option.map_eq_some_iff.1 hc;obtain⟨d,hd,hp⟩:=l2 j x hx;exact .p _ _ (Qw4 hI (k4 j d u hd hu) hp)
 .rename_i cs;obtain⟨vs,hv,rfl⟩:=Option.map_eq_some_iff.1 hd;obtain⟨l1,l2⟩:=Qw5 hI cs vs hv;cases h with
  | agg _ us k1 k2 k3 =>
   refine .p _ _ (.agg _ us (by rw[l1,k1]) (λj c u hc hu=>?_) (λj c u hc hu=>?_))
   .obtain⟨d,hd,-⟩:=l2 j c hc;exact k2 j d u hd hu
   .obtain⟨d,hd,hp⟩:=l2 j c hc;exact Qw4 hI (k3 j d u hd hu) hp
 .obtain⟨x,hx,rfl⟩:=Option.map_eq_some_iff.1 hd;exact .p _ _ (Qw4 hI h hx)
theorem Qag6{G:Gh}{s:S}{w:World}(hI:Inv G s w){ds:List D}{us:List Value}(hl:us.length=ds.length)(h:∀ (j:Nat) d u,ds[j]? = some d->us[j]? = some u->DRel G w d u){r:D}(hr:pubR s.heap ds=some r) :
  DRel ⟨λb o=>G.com b o\/b ∈ G.name,[],[]⟩ w r (if h:us.toArray.size=1 then us.toArray[0] else .tuple us.toArray):=by
 unfold pubR at hr;split at hr
 .rename_i d
  match us,hl with
  | [u],_=>exact Qag5 hI (h 0 d u rfl rfl) hr
 .rename_i hne;obtain⟨xs,hx,rfl⟩:=Option.map_eq_some_iff.1 hr;obtain⟨u1,u2⟩:=Qw5 hI ds xs hx;have hsz:¬ us.toArray.size=1:=by
   simp only[List.size_toArray,hl];intro h1
   match ds,h1 with
   | [d],_=>exact hne d rfl
  rw[dif_neg hsz];refine .tup _ _ (by simp[u1,hl]) (λj c u hc hu=>?_);rw[List.getElem?_map] at hc;obtain⟨x,hx', rfl⟩:=Option.map_eq_some_iff.1 hc;obtain⟨d,hd,hxd⟩:=u2 j x hx';exact .p _ _ (Qw4 hI (h j d u hd (by simpa using hu)) hxd)
def retM(tb:Tbl)(rs:List ResultVar)(R:D->Prop)(e:Exit)(σ : St):Prop :=
 match e with
 | .normal=>Qgh tb σ rs λds=>match pubR σ.s.heap ds with | some d=>R d | none=>False
 | .ret=>Qgh tb σ rs λds=>match pubR σ.s.heap ds with | some d=>R d | none=>False
 | _=>False
theorem PCall.ofM(hm:P.follows .mixedOrders=true)(hT:TblOk P tb){f:FuncId}{fn:Func}{c:Code}(lv:List (Nat×List Nat))(hf:P.funcs[f]? = some fn)(hb:fn.body=some c)(hn:isFn P f=true){args:List V}(hN:args.length<=fn.ntmps){r:D}
  (h:bwp (0,0) P tb fn.ntmps lv c (retM tb fn.results.toList λd=>LeD d r) ⟨Qv7 args 0,⟨[],[]⟩⟩):PCall P f args r:=by
 refine⟨hn,λC w us hgl hl hrel=>?_⟩;have hR:Rel fn.ntmps ⟨λb o=>C b o/\b<w.heap.size,[],[]⟩ ⟨Qv7 args 0,⟨[],[]⟩⟩ { tmps:=us++Array.replicate (fn.ntmps-us.size) undef,defers:=[] } w:=by
  refine⟨⟨λb o h=>⟨h.2,by simp,by simp⟩,rfl,by simp,λi b cs h=>by simp at h,rfl,λt T b h=>by simp at h,λT h=>by simp at h,hgl.mono λb o u h1 h2=>⟨⟨h1,Qxe h2⟩,h2⟩⟩,λt d hd=>?_,by simp; omega⟩;obtain⟨x,h1,h2,rfl⟩:=Qq3 args 0 t d hd;have hlt:t<args.length:=(List.getElem?_eq_some_iff.1 h1).1;have hlt2:t<us.size:=by omega
  refine⟨by simp; omega,.p x _ (DRel.lt ?_)⟩;refine hrel t x _ h1 ?_;simp only[Array.getD_eq_getD_getElem?,Array.getElem?_append_left hlt2,Array.getElem?_eq_getElem hlt2,Option.getD_some]
 refine Qm9 hf hb (Qaq hm hT c _ _ h) hR λe G' σ' a' w' hE hR' hq=>?_
 have key:∀ (hq:Qgh tb σ' fn.results.toList λds=>match pubR σ'.s.heap ds with | some d=>LeD d r | none=>False),∃ v,(results fn a'.tmps).run P w' = .ok v w' /\
   ∃ u,Ending.returned v = .returned u/\DRel ⟨λb o=>C b o\/w.heap.size<=b,[],[]⟩ w' r u/\Below w.heap.size w w' := λhq=>by
  obtain⟨ds,us', h1,h2,h3,h4⟩:=Qfp hT hR' _ _ hq;split at h4
  .rename_i d hd;refine⟨if h:us'.toArray.size=1 then us'.toArray[0] else .tuple us'.toArray,?_,_,rfl,DRel.le (DRel.weak (Qag6 hR'.inv h2 h3 hd) λb o hc=>?_) h4,⟨hE.ext.os,hE.ext.tape,hE.ext.output,hE.ext.size,λk hk=>hE.ext.old k hk (by simp) (by simp)⟩⟩
   .unfold results;rw[Sem.run_bind,Array.mapM_eq_mapM_toList,Sem.run_map]
    erw [h1]
    rfl
   .rcases hc with hc | hc
    .rcases hE.ext.new b o hc with h | h | h | ⟨T,h,_⟩
     .exact .inl h.1
     .exact .inr h
     .simp at h
     .simp at h
    .rcases hE.ext.mine b (.inl hc) with h | h | ⟨T,h,_⟩
     .exact .inr h
     .simp at h
     .simp at h
  .exact h4.elim
 cases e with
 | normal=>exact⟨.inl rfl,key hq⟩
 | ret=>exact⟨.inr rfl,key hq⟩
 | _=>exact hq.elim
def IEnd(N:Nat)(xs:List (List V))(e:Exit)(σ : St):Prop :=
 ((e = .normal\/e = .ret)/\Le (0,1) N σ ⟨[],⟨[],[xs.length]⟩⟩)\/((e = .normal\/e = .ret)/\Le (0,1) N σ ⟨[],⟨[],[xs.length+1]⟩⟩)
theorem IterOK.ofB(hm:P.follows .mixedOrders=true)(hT:TblOk P tb){f:FuncId}{fn:Func}{c:Code}(lv:List (Nat×List Nat))(hf:P.funcs[f]? = some fn)(hb:fn.body=some c)(hn:isFn P f=true){cap:List V}{xs:List (List V)}(hN:cap.length+1<=fn.ntmps)
  (hres:fn.results.toList=[]) (h:bwp (0,1) P tb fn.ntmps lv c (λe σ => ∃ τ,Le (0,1) fn.ntmps σ τ /\ IEnd fn.ntmps xs e τ) ⟨Qsi (.yld P 0 xs::cap.map .p) 0,⟨[],[0]⟩⟩):IterOK P f cap xs:=by
 refine⟨hn,λG w us hI hl hrel=>?_⟩;have hlen:(D.yld P 0 xs::cap.map .p).length=cap.length+1:=by simp
 have hR:Rel fn.ntmps G ⟨Qsi (.yld P 0 xs::cap.map .p) 0,⟨[],[0]⟩⟩ { tmps:=us++Array.replicate (fn.ntmps-us.size) undef,defers:=[] } w:=by
  refine⟨hI,λt d hd=>?_,by simp; omega⟩;obtain⟨h1,h2⟩:=Qm8 _ 0 t d hd;have hlt:t<(D.yld P 0 xs::cap.map .p).length:=(List.getElem?_eq_some_iff.1 h1).1;have hlt2:t<us.size:=by omega
  refine⟨by simp; omega,?_⟩;refine hrel t d _ h1 ?_;simp only[Array.getD_eq_getD_getElem?,Array.getElem?_append_left hlt2,Array.getElem?_eq_getElem hlt2,Option.getD_some]
 refine Qm9 hf hb (T_up (Qaq hm hT c _ _ h) λe σ' hq=>hq) hR λe G' σ' a' w' hE hR' hq=>?_
 have hnm:G.name.length<=0:=by rw[hI.names]; exact Nat.le_refl _
 have htk:G.tok.length<=1:=by have:=congrArg List.length hI.live; simp at this; omega
 have hrun:∃ v,(results fn a'.tmps).run P w' = .ok v w' /\ ∀ G,DRel G w' (.tup []) v:=by
  have e1:fn.results = #[]:=by rw[<-Array.toArray_toList (xs:=fn.results),hres]
  refine⟨.tuple #[],?_,λG =>.tup [] #[] rfl λj c u hc=>by simp at hc⟩;unfold results;rw[e1];simp
 obtain⟨v,hv,hvr⟩:=hrun;rcases hq with ⟨he,hle⟩ | ⟨he,hle⟩
 .obtain⟨G2,e2,r2⟩:=hle.out G' a' w' hR';exact⟨he,v,hv,v,G2,.tup [],_,rfl,(hE.trans e2).stp hnm htk,r2.inv,hvr _,.inl rfl⟩
 .obtain⟨G2,e2,r2⟩:=hle.out G' a' w' hR';exact⟨he,v,hv,v,G2,.tup [],_,rfl,(hE.trans e2).stp hnm htk,r2.inv,hvr _,.inr rfl⟩
end
@[reducible] def wr (n:Int):Int:=IntKind.i64.wrap n
def nV(k:IntKind)(n:Int):V :=.v (.int k n)
def cInt(n:Int):List V:=[iV n]
def cNum(k:IntKind)(n:Int):List V:=[nV k n]
def Qak3(b:Bool):List V:=[bV b]
def cStr(l:List UInt8):List V:=[sV l]
end Go.Proofs.YtfgegilhjlnohaaGreat
end
noncomputable section
set_option linter.unusedVariables false
namespace Go.Proofs.YtfgegilhjlnohaaGreat
open Go.RowKit
theorem RelL.of_le{xs ys:List V}(h:LeL xs ys):RelL xs ys:=λC w us hu hr=>⟨hu.trans h.1,λj y u hy hu=>by
 obtain⟨x,hx⟩:=Qgk h.1 hy;exact(hr j x u hx hu).le (h.2 j x y hx hy)⟩
def b2s(l:List Int):Option (List UInt8):=if l.all (λn=>decide (0<=n/\n<=255))=true then some (l.map λn=>UInt8.ofNat n.toNat) else none
theorem Qx7{R:Type}{l:List Int}{f:List UInt8->Option R}{r:R}{lv:List Nat}{K:D->List Nat->Prop}(h:(b2s l>>=f)=some r)(k:∀ m,b2s l=some m->f m=some r->K (.p (.v (Qd1 m))) lv) :
  ∃ m:List UInt8,l.map (cNum .u8)=m.map Qf4/\∃ d' live,LeD (.p (.v (Qd1 m))) d' /\ live=lv/\K d' live:=by
 refine Qaj h λm hm hf=>?_
 have hk:=k m hm hf;refine⟨m,?_,_,_,.refl _,rfl,hk⟩;unfold b2s at hm;split at hm
 .rename_i hl;cases hm;rw[List.map_map];refine List.map_congr_left λn hn=>?_
  have:=List.all_eq_true.1 hl n hn;simp only[decide_eq_true_eq] at this;obtain⟨N,rfl⟩:∃ N:Nat,n=(N:Int):=⟨n.toNat,by omega⟩;have hN:N<=255:=by omega
  simp only[Function.comp,cNum,nV,Qf4,Int.toNat_natCast,UInt8.toNat_ofNat'];rw[Nat.mod_eq_of_lt (by omega)]
 .cases hm
def s2b(l:List UInt8):List Int:=l.map λx=>(x.toNat:Int)
theorem Qaeq(a:List Int)(b:List UInt8):a.map (cNum .u8)++b.map Qf4=(a++s2b b).map (cNum .u8):=by
 rw[List.map_append];unfold s2b;rw[List.map_map];rfl
theorem Qaa7{R:Type}{bytes:Nat}{a:List Int}{b:List UInt8}{sz tk e:Nat}{f:List Int->Option R}{r:R}{lv:List Nat}{K:D->List Nat->Prop}(h:(appL bytes a (s2b b)>>=f)=some r)(hl:lv[tk]? = some (a.map (cNum .u8)).length)
  (k:∀ o,appL bytes a (s2b b)=some o->f o=some r->K (.own tk e sz (o.map (cNum .u8))) (lv.set tk (o.map (cNum .u8)).length)) :
  lv[tk]? = some (a.map (cNum .u8)).length/\(((a.map (cNum .u8)).length+b.length)*bytes<=140737488355328/\(a.map (cNum .u8)).length+b.length<=9223372036854775807) /\
   ∃ d' live,LeD (.own tk e sz (a.map (cNum .u8)++b.map Qf4)) d' /\ live=lv.set tk (a.map (cNum .u8)++b.map Qf4).length/\K d' live:=by
 refine Qaj h λo ho hf=>?_
 have hk:=k o ho hf;unfold appL at ho;split at ho
 .rename_i hc;cases ho;rw[Qaeq,List.length_map];simp only[s2b,List.length_map] at hc;exact⟨by rw[List.length_map] at hl; exact hl,hc,_,_,.refl _,rfl,hk⟩
 .cases ho
def rgP:Code->List Nat
 | .rangeFunc _ ps _ _=>ps.toList
 | _=>[]
def rgA:Code->Code
 | .rangeFunc _ _ a _=>a
 | _ =>.skip
def rgB:Code->Code
 | .rangeFunc _ _ _ b=>b
 | _ =>.skip
section
variable {P:Program}
theorem Q3f{k m N:Nat}{ps:List Nat}{asn body:Code}{env:Env}{Q:Exit->St->Prop}{α : Type}{c : α -> List V}{x : α}{r:List α}{s:S}
  (h:T (k,m) P N asn (λe σ1=>e = .normal/\T (k,m) P N body (λe σ2=>∃ s', Le (k,m) N ⟨[],σ2.s⟩ ⟨[],s'⟩/\s'.heap.length=k/\s'.live.length=m /\
   match e with
   | .normal=>RL k m P N ps asn body env Q (r.map c) s'
   | .ret=>Q .ret ⟨env,s'⟩
   | .exit i=>Q (.exit i) ⟨env,s'⟩
   | _=>False) σ1) ⟨putP ps (c x) env,s⟩):RL k m P N ps asn body env Q ((x::r).map c) s:=h
theorem Qaa8{k m N:Nat}{ps:List Nat}{asn body:Code}{env:Env}{Q:Exit->St->Prop}{α : Type}{c : α -> List V}{s:S}(h:Q .normal ⟨env,s⟩):RL k m P N ps asn body env Q (([]:List α).map c) s:=h
def Stop(B:Nat×Nat)(N:Nat)(xs:List (List V))(σ : St):Prop:=∃ s', Le B N σ ⟨[],s'⟩/\s'.heap.length=B.1/\s'.live.length=B.2/\s'.live[0]? = some (xs.length+1)
def Qs(B:Nat×Nat)(N:Nat)(xs:List (List V))(J:Exit->St->Prop)(e:Exit)(σ : St):Prop:=J e σ \/ (e = .ret/\Stop B N xs σ)
theorem env0{B:Nat×Nat}{N:Nat}{env:Env}{s:S}:Le B N ⟨env,s⟩ ⟨[],s⟩:=⟨λG a w hR=>⟨G,.refl B G w,⟨hR.inv,λt d h=>by simp at h,hR.size⟩⟩⟩
theorem le01{N:Nat}{σ : St}{n:Nat}(h : σ.s.live[0]? = some n):Le (0,1) N σ ⟨[],⟨[],[n]⟩⟩:=by
 obtain⟨env,s⟩ := σ;refine env0.trans (Le.tow 0 1 rfl .nil .nil ?_ (Nat.le_refl _) (Nat.le_refl _) rfl);cases hs:s.live with
 | nil=>simp[hs] at h
 | cons a l=>simp[hs] at h; simp[h]
theorem Qag7{N:Nat}{xs:List (List V)}{σ : St}(h : σ.s.live[0]? = some (xs.length+1)):Stop (0,1) N xs σ := ⟨_,le01 h,rfl,rfl,rfl⟩
theorem Qaa9{N:Nat}{xs:List (List V)}{e:Exit}{σ : St}(he:e = .normal\/e = .ret)(h : σ.s.live[0]? = some (xs.length+1)):∃ τ,Le (0,1) N σ τ /\ IEnd N xs e τ := ⟨_,le01 h,.inr ⟨he,.refl _ _ _⟩⟩
theorem Qaer{α O:Type}{c : α -> List V}{N:Nat}{xs pre:List (List V)}{e:Exit}{σ : St}{l:List α}{y o2:O}(h:some ([],y)=some (l,o2))(hx:xs=pre++(l.map c++[]))(he:e = .normal\/e = .ret)(hl : σ.s.live[0]? = some pre.length):∃ τ,Le (0,1) N σ τ /\ IEnd N xs e τ := by
 cases h;have:xs.length=pre.length:=by rw[hx]; simp
 refine⟨_,le01 hl,.inl ⟨he,?_⟩⟩;rw[this];exact .refl _ _ _
theorem sndI{α O:Type}{l:List α}{y o2:O}(h:some (([]:List α),y)=some (l,o2)):some y=some o2:=by cases h; rfl
theorem Qag8{α O:Type}{c : α -> List V}{xs pre gq post:List (List V)}{l:List α}{y o2:O}{L L' : List Nat}(h:some ([],y)=some (l,o2))(hx:xs=pre++(l.map c++post))(hq:xs=gq++post)(hl:L=pre.length::L'):L=gq.length::L' := by
 cases h;have e1:xs.length=pre.length+post.length:=by rw[hx]; simp
 have e2:xs.length=gq.length+post.length:=by rw[hq]; simp
 rw[hl,show pre.length=gq.length by omega]
theorem Qag9{B:Nat×Nat}{N:Nat}{xs:List (List V)}{J G:Exit->St->Prop}(k:∀ e σ,J e σ -> ∃ τ,Le B N σ τ /\ G e τ)(s:∀ s' : S,s'.heap.length=B.1->s'.live.length=B.2->s'.live[0]? = some (xs.length+1)->G .ret ⟨[],s'⟩):∀ e σ,Qs B N xs J e σ -> ∃ τ,Le B N σ τ /\ G e τ := λe σ h=>by
 rcases h with h | ⟨rfl,s', h1,h2,h3,h4⟩
 .exact k e σ h
 .exact⟨_,h1,s s' h2 h3 h4⟩
theorem Qaes{α O:Type}{c : α -> List V}{xs pre post:List (List V)}{x : α}{m:Option (List α × O)}{l:List α}{o2:O}{t:Nat}{ds:List D}{vs:List V}{s:S}{K:D->S->Prop}
  (h:(m>>=λq=>some (x::q.1,q.2))=some (l,o2)) (hx:xs=pre++(l.map c++post)) (hl:LeL vs (c x)) (hu:unps ds=some vs) (hlive:s.live[t]? = some pre.length)
  (k1:∀ l', m=some (l', o2)->xs=(pre++[c x])++(l'.map c++post)->K (.p (.v (.bool true))) ⟨s.heap,s.live.set t (pre++[c x]).length⟩) (k2:K (.p (.v (.bool false))) ⟨s.heap,s.live.set t (xs.length+1)⟩) :
  true=true/\P=P/\Qads t xs ds s K:=by
 obtain⟨q,hm,hq⟩:=Option.bind_eq_some_iff.1 h;cases hq;have e:xs=(pre++[c x])++(q.1.map c++post):=by rw[hx]; simp
 refine⟨rfl,rfl,pre.length,c x,vs,hlive,?_,hu,.of_le hl,?_,k2⟩
 .rw[hx]; simp
 .have:=k1 q.1 hm e;rw[List.length_append] at this;exact this
theorem Qw6{α O R:Type}{c : α -> List V}{xs pre post:List (List V)}{m:Option (List α × O)}{f:List α × O->Option (List α × R)}{l:List α}{o2:R}{φ : Prop}
  (h:(m>>=λo=>f o>>=λq=>some (o.1++q.1,q.2))=some (l,o2)) (hx:xs=pre++(l.map c++post))
  (k:∀ o l2 gq,m=some o->f o=some (l2,o2)->xs=pre++(o.1.map c++(l2.map c++post))->xs=gq++(l2.map c++post) -> φ) : φ := by
 obtain⟨o,ho,hf⟩:=Option.bind_eq_some_iff.1 h;obtain⟨q,hq,he⟩:=Option.bind_eq_some_iff.1 hf;cases he;exact k o q.1 (pre++o.1.map c) ho hq (by rw[hx]; simp) (by rw[hx]; simp)
theorem Le.env0{B:Nat×Nat}{N:Nat}(σ : St):Le B N σ ⟨[],σ.s⟩:=⟨λG _ w hR=>⟨G,.refl B G w,⟨hR.inv,λt d h=>by simp at h,hR.size⟩⟩⟩
theorem Qai4{α R:Type}{l:List α}{n:Int}{len:Nat}{c : α -> V}{te:TI}{cs:List V}{f : α -> Option R}{r:R}{s:S}{K:D->S->Prop}(h:(idx l n>>=f)=some r)(hc:cs=l.map c)(hl:l.length=len)(hz:te.size=1)(ha:Qps te.d=false)
  (k:∀ x,idx l n=some x->f x=some r->K (.p (c x)) s):0<=n/\n<(len:Int)/\Q5l te (.p (.agg cs)) (n.toNat*te.size) s K:=by
 refine Qaj h λx hx hf=>?_
 have hk:=k x hx hf;unfold idx at hx;split at hx
 .rename_i hi;have hlt:=(List.getElem?_eq_some_iff.1 hx).1;refine⟨hi,by omega,?_⟩;subst hc;unfold Q5l;simp only[Ql3,ha,hz,Nat.mul_one];rw[List.getElem?_map,List.getElem?_map,hx];exact hk
 .cases hx
end
theorem Qx8{α R:Type}{l:List α}{i:Int}{c c' : α -> List V}{f : α -> Option R}{r:R}{sz tk v:Nat}{lv:List Nat}{K:List V->Prop}(h:(idx l i>>=f)=some r)(hl:lv[tk]? = some v)(hc:∀ x,c x=c' x)(hs:∀ x,(c' x).length=sz)(hz:0<sz)(k:∀ x,idx l i=some x->f x=some r->K (c' x)) :
  lv[tk]? = some v/\∃ cell,0<=i/\(l.map c)[i.toNat]? = some cell/\cell.length=sz/\0<sz/\K cell:=⟨hl,Qbu h hc hs hz k⟩
theorem Qak4{α : Type}{l:List α}{c : α -> List V}{i:Nat}{x:List V}{y : α}(h:LeL x (c y)):LeLL ((l.map c).set i x) ((l.set i y).map c):=by
 refine⟨by simp,λj e e' he he' => ?_⟩;rw[List.getElem?_map] at he';obtain⟨z,hz,rfl⟩:=Option.map_eq_some_iff.1 he';by_cases hij:i=j
 .subst hij;have hlt:i<l.length:=by have:=(List.getElem?_eq_some_iff.1 hz).1; simpa using this
  rw[List.getElem?_set_self (by simpa using hlt)] at he;rw[List.getElem?_set_self hlt] at hz;cases he; cases hz;exact h
 .rw[List.getElem?_set_ne hij,List.getElem?_map] at he;rw[List.getElem?_set_ne hij] at hz;rw[hz] at he;cases he;exact .refl _
theorem Qx9{α R:Type}{bytes:Nat}{a b:List α}{c : α -> List V}{fs:List (List V)}{sz tk v:Nat}{f:List α -> Option R}{r:R}{lv:List Nat}{K:Nat->List (List V)->Prop}(h:(appL bytes a b>>=f)=some r)(hf:LeLL fs (b.map c))(hs:∀ x,(c x).length=sz)
  (hl:lv[tk]? = some v) (k:∀ o,appL bytes a b=some o->f o=some r->K (v+1) (o.map c)) :
  lv[tk]? = some v/\((∀ x ∈ fs,x.length=sz)/\((a.map c).length+fs.length)*bytes<=140737488355328/\(a.map c).length+fs.length<=9223372036854775807)/\∃ v', v<v' /\ ∃ es', LeLL (a.map c++fs) es' /\ K v' es' := by
 refine Qaj h λo ho hk=>?_
 obtain⟨h1,h2,h3,-⟩:=Qaa6 ho hf hs;exact⟨hl,h1,_,Nat.lt_succ_self v,_,h2,k o ho hk⟩
theorem Qaha{α R:Type}{bytes:Nat}{a b:List α}{c : α -> List V}{fs:List (List V)}{sz tk v:Nat}{f:List α -> Option R}{r:R}{lv:List Nat}{K:Nat->List (List V)->Prop}(h:(appL bytes a b>>=f)=some r)(hf:LeLL fs (b.map c))(hs:∀ x,(c x).length=sz)
  (hl:lv[tk]? = some v) (hv:v=a.length+1) (hb:0<b.length) (k:∀ o,appL bytes a b=some o->f o=some r->K (o.length+1) (o.map c)) :
  lv[tk]? = some v/\((∀ x ∈ fs,x.length=sz)/\((a.map c).length+fs.length)*bytes<=140737488355328/\(a.map c).length+fs.length<=9223372036854775807)/\∃ v', v<v' /\ ∃ es', LeLL (a.map c++fs) es' /\ K v' es' := by
 refine Qaj h λo ho hk=>?_
 obtain⟨h1,h2,h3,-⟩:=Qaa6 ho hf hs;have h4:o.length=a.length+b.length:=by
  have:=h2.1;have h5:=hf.1;simp only[List.length_append,List.length_map] at this h5;omega
 exact⟨hl,h1,_,by omega,_,h2,k o ho hk⟩
theorem Qaba{α R:Type}{bytes:Nat}{a b:List α}{c : α -> List V}{es fs:List (List V)}{sz:Nat}{f:List α -> Option R}{r:R}{K:List (List V)->Prop}(h:(appL bytes a b>>=f)=some r)(he:LeLL es (a.map c))(hf:LeLL fs (b.map c))(hs:∀ x,(c x).length=sz)(hcl:a.length=0\/0<b.length)
  (k:∀ o,appL bytes a b=some o->f o=some r->K (o.map c)) :
  (es.length=0\/0<fs.length)/\(∀ x ∈ es,x.length=sz)/\((∀ x ∈ fs,x.length=sz)/\(es.length+fs.length)*bytes<=140737488355328/\es.length+fs.length<=9223372036854775807)/\∃ es', LeLL (es++fs) es' /\ K es' := by
 obtain⟨h1,h2,h3,d', live,-⟩:=Qai3 (e:=0) (lv:=[]) (f:=f) (r:=r) (K:=λ_ _=>True) h he hf hs hcl λ_ _ _=>trivial
 refine Qaj h λo ho hk=>?_
 have h5:LeLL (es++fs) (o.map c):=by
  unfold appL at ho;split at ho
  .cases ho; rw[List.map_append]; exact .app he hf
  .cases ho
 exact⟨h1,h2,h3,_,h5,k o ho hk⟩
end Go.Proofs.YtfgegilhjlnohaaGreat
end

noncomputable section
namespace Go.Proofs.YtfgegilhjlnohaaGreat
open Go.RowKit
set_option linter.unusedSimpArgs false
set_option linter.unusedVariables false
abbrev mx:Nat:=9223372036854775807
@[simp] theorem Qax {α : Type} (l:List α) (i:Nat):idx l (i:Int)=l[i]? := by
 unfold idx;rw[if_pos (by omega)];rfl
theorem Q9f{α : Type}(l:List α)(n:Nat):idx l (OfNat.ofNat n:Int)=l[n]? := Qax l n
@[simp] theorem Qai5 {α : Type} (l:List α):idx l 0=l[0]? := Qax l 0
@[simp] theorem Qan0 {α : Type} (l:List α):idx l 1=l[1]? := Qax l 1
@[simp] theorem Qac {α β : Type} (x : α) (f : α -> Option β):(some x>>=f)=f x:=rfl
theorem Qff{n:Int}(h1 : -9223372036854775808<=n)(h2:n<=9223372036854775807):wr n=n:=w64 h1 h2
theorem Qa0{i:Nat}(h:i<9223372036854775807):wr ((i:Int)+1)=((i+1:Nat):Int):=by rw[Qff (by omega) (by omega)]; rfl
theorem Qfg{α : Type}{bytes:Nat}{a b:List α}(h:(a.length+b.length)*bytes<=140737488355328)(h2:a.length+b.length<=9223372036854775807):appL bytes a b=some (a++b):=by
 unfold appL; rw[if_pos ⟨h,h2⟩]
theorem Qoc{α : Type}{l:List α}{lo hi:Int}(h1:0<=lo)(h2:lo<=hi)(h3:hi<=l.length):cutL l lo hi=some ((l.take hi.toNat).drop lo.toNat):=by
 unfold cutL; rw[if_pos ⟨h1,h2,h3⟩]
theorem Qp2{p:Prop}[Decidable p](h:p):need p=some ():=by unfold need; rw[if_pos h]
theorem getE{α : Type}{l:List α}{i:Nat}(h:i<l.length):l[i]? = some l[i]:=List.getElem?_eq_getElem h
theorem ltI(a b:Nat):decide ((a:Int)<(b:Int))=decide (a<b):=by
 congr 1; exact propext Int.ofNat_lt
theorem upto {α : Type} {l : List α} {φ : Nat → Prop} (h0 : φ l.length) (h : ∀ i, i < l.length → φ (i + 1) → φ i) : ∀ i, i ≤ l.length → φ i := by
  have key : ∀ n i, l.length - i = n → i ≤ l.length → φ i := by
    intro n
    induction n with
    | zero => intro i h1 h2; have : i = l.length := by omega
              subst this; exact h0
    | succ n ih => intro i h1 h2; exact h i (by omega) (ih (i + 1) (by omega) (by omega))
  exact fun i hi => key _ i rfl hi
theorem Qce{α : Type}{l:List α}{i:Nat}(h:i<l.length):l.drop i=l[i]::l.drop (i+1):=List.drop_eq_getElem_cons h
end Go.Proofs.YtfgegilhjlnohaaGreat
end
noncomputable section
namespace Go.Proofs
open Go.Shelf
def Tryz.lays217_ren:Go.Shelf.Ren:=⟨λ| 217=>174 | 266=>183 | n=>n,λ| 9=>9 | 5=>5 | 3=>3 | n=>n,λ| n=>n⟩
theorem Tryz.lays217:Go.Proofs.Lays.n217 Tryz.prog Tryz.lays217_ren:={
 mixed:=by kernel_rfl
 f217:=Tryz.func174.trans (congrArg some (by kernel_rfl))
 f266:=Tryz.func183.trans (congrArg some (by kernel_rfl))
 t3:=Tryz.underlying3
 a3:=Tryz.isAgg3
 z3:=Tryz.sizeOf3
 v3:=Tryz.zeroValue3
 t5:=Tryz.underlying5
 a5:=Tryz.isAgg5
 z5:=Tryz.sizeOf5
 v5:=Tryz.zeroValue5
 t9:=Tryz.underlying9
 a9:=Tryz.isAgg9
 z9:=Tryz.sizeOf9
 v9:=Tryz.zeroValue9 }
open Go.RowKit Go.Lib in
theorem Tryz.stringslite_IndexByte(s:ByteArray)(c:Int)(w:World) :
  Calls Tryz.prog 174 #[.string s,.int .u8 c] w λe w' => e = .returned (.int .i64 (Lib.indexByte s.data.toList c.toNat.toUInt8))/\w' = w:=Any.stringslite_IndexByte Tryz.lays217 s c w
def Tryz.lays219_ren:Go.Shelf.Ren:=⟨λ| 219=>167 | 217=>174 | 225=>175 | 224=>176 | 267=>177 | 266=>183 | 314=>184 | n=>n,λ| 9=>9 | 3=>3 | 4=>4 | 5=>5 | 46=>43 | 146=>210 | 51=>135 | n=>n,λ| 1=>0 | n=>n⟩
theorem Tryz.lays219:Go.Proofs.Lays.n219 Tryz.prog Tryz.lays219_ren:={
 mixed:=by kernel_rfl
 f217:=Tryz.func174.trans (congrArg some (by kernel_rfl))
 f219:=Tryz.func167.trans (congrArg some (by kernel_rfl))
 f224:=Tryz.func176.trans (congrArg some (by kernel_rfl))
 f225:=Tryz.func175.trans (congrArg some (by kernel_rfl))
 f266:=Tryz.func183.trans (congrArg some (by kernel_rfl))
 f267:=Tryz.func177.trans (congrArg some (by kernel_rfl))
 f314:=Tryz.func184.trans (congrArg some (by kernel_rfl))
 t3:=Tryz.underlying3
 a3:=Tryz.isAgg3
 z3:=Tryz.sizeOf3
 v3:=Tryz.zeroValue3
 t4:=Tryz.underlying4
 a4:=Tryz.isAgg4
 z4:=Tryz.sizeOf4
 v4:=Tryz.zeroValue4
 t5:=Tryz.underlying5
 a5:=Tryz.isAgg5
 z5:=Tryz.sizeOf5
 v5:=Tryz.zeroValue5
 t9:=Tryz.underlying9
 a9:=Tryz.isAgg9
 z9:=Tryz.sizeOf9
 v9:=Tryz.zeroValue9
 t46:=Tryz.underlying43
 a46:=Tryz.isAgg43
 z46:=Tryz.sizeOf43
 v46:=Tryz.zeroValue43
 t51:=Tryz.underlying135
 a51:=Tryz.isAgg135
 z51:=Tryz.sizeOf135
 v51:=Tryz.zeroValue135
 t146:=Tryz.underlying210
 a146:=Tryz.isAgg210
 z146:=Tryz.sizeOf210
 v146:=Tryz.zeroValue210
 g1:=by kernel_rfl }
open Go.RowKit Go.Lib in
theorem Tryz.stringslite_Index(s sub:ByteArray)(m:Int)(w:World)(hs:s.size<4294967281)(hm:w.cell? ⟨0,0,none⟩=some (.int .i64 m)) :
  Calls Tryz.prog 167 #[.string s,.string sub] w λe w' => e = .returned (.int .i64 (Lib.index s.data.toList sub.data.toList))/\w' = w:=Any.stringslite_Index Tryz.lays219 s sub m w hs hm
def Tryz.laysM219_ren:Go.Shelf.Ren:=⟨λ| 219=>167 | 217=>174 | 225=>175 | 224=>176 | 267=>177 | 266=>183 | 314=>184 | n=>n,λ| 9=>9 | 3=>3 | 4=>4 | 5=>5 | 46=>43 | 146=>210 | 51=>135 | n=>n,λ| 1=>0 | n=>n⟩
theorem Tryz.laysM219:Go.Proofs.LaysM.n219 Tryz.prog Tryz.laysM219_ren:={
 mixed:=by kernel_rfl
 f217:=Tryz.func174.trans (congrArg some (by kernel_rfl))
 f219:=Tryz.func167.trans (congrArg some (by kernel_rfl))
 f224:=Tryz.func176.trans (congrArg some (by kernel_rfl))
 f225:=Tryz.func175.trans (congrArg some (by kernel_rfl))
 f266:=Tryz.func183.trans (congrArg some (by kernel_rfl))
 f267:=Tryz.func177.trans (congrArg some (by kernel_rfl))
 f314:=Tryz.func184.trans (congrArg some (by kernel_rfl))
 t3:=Tryz.underlying3
 a3:=Tryz.isAgg3
 z3:=Tryz.sizeOf3
 v3:=Tryz.zeroValue3
 t4:=Tryz.underlying4
 a4:=Tryz.isAgg4
 z4:=Tryz.sizeOf4
 v4:=Tryz.zeroValue4
 t5:=Tryz.underlying5
 a5:=Tryz.isAgg5
 z5:=Tryz.sizeOf5
 v5:=Tryz.zeroValue5
 t9:=Tryz.underlying9
 a9:=Tryz.isAgg9
 z9:=Tryz.sizeOf9
 v9:=Tryz.zeroValue9
 t46:=Tryz.underlying43
 a46:=Tryz.isAgg43
 z46:=Tryz.sizeOf43
 v46:=Tryz.zeroValue43
 t51:=Tryz.underlying135
 a51:=Tryz.isAgg135
 z51:=Tryz.sizeOf135
 v51:=Tryz.zeroValue135
 t146:=Tryz.underlying210
 a146:=Tryz.isAgg210
 z146:=Tryz.sizeOf210
 v146:=Tryz.zeroValue210
 g1:=by kernel_rfl
 i3:=by kernel_rfl
 i4:=by kernel_rfl
 i5:=by kernel_rfl
 i9:=by kernel_rfl
 i46:=by kernel_rfl
 i51:=by kernel_rfl
 i146:=by kernel_rfl
 m1:=by kernel_rfl
 s1_3:=λw h=>Go.Proofs.cell_of_shapedOpen_int (zero := #[.int .i64 0]) (t:=3) h (of_decide_eq_true (by kernel_rfl)) (by kernel_rfl) rfl (by kernel_rfl) (by kernel_rfl) Tryz.underlying3 }
def Tryz.lays190_ren:Go.Shelf.Ren:=⟨λ| 190=>48 | 125=>82 | 258=>81 | 128=>113 | 129=>114 | 302=>104 | 303=>105 | 304=>106 | 305=>107 | 306=>108 | 307=>109 | 308=>110 | 309=>111 | 310=>112 | 333=>133 | 329=>134 | 330=>135 | 334=>136 | 335=>137 | 336=>138 | 344=>157 | n=>n,λ| 31=>29 | 9=>9 | 3=>3 | 46=>43 | 0=>0 | 51=>135 | 53=>137 | 4=>4 | 183=>128 | 182=>127 | 131=>132 | 5=>5 | 218=>162 | 222=>166 | 228=>191 | 229=>192 | n=>n,λ| n=>n⟩
theorem Tryz.lays190:Go.Proofs.Lays.n190 Tryz.prog Tryz.lays190_ren:={
 mixed:=by kernel_rfl
 f125:=Tryz.func82.trans (congrArg some (by kernel_rfl))
 f128:=Tryz.func113.trans (congrArg some (by kernel_rfl))
 f129:=Tryz.func114.trans (congrArg some (by kernel_rfl))
 f190:=Tryz.func48.trans (congrArg some (by kernel_rfl))
 f258:=Tryz.func81.trans (congrArg some (by kernel_rfl))
 f302:=Tryz.func104.trans (congrArg some (by kernel_rfl))
 f303:=Tryz.func105.trans (congrArg some (by kernel_rfl))
 f304:=Tryz.func106.trans (congrArg some (by kernel_rfl))
 f305:=Tryz.func107.trans (congrArg some (by kernel_rfl))
 f306:=Tryz.func108.trans (congrArg some (by kernel_rfl))
 f307:=Tryz.func109.trans (congrArg some (by kernel_rfl))
 f308:=Tryz.func110.trans (congrArg some (by kernel_rfl))
 f309:=Tryz.func111.trans (congrArg some (by kernel_rfl))
 f310:=Tryz.func112.trans (congrArg some (by kernel_rfl))
 f329:=Tryz.func134.trans (congrArg some (by kernel_rfl))
 f330:=Tryz.func135.trans (congrArg some (by kernel_rfl))
 f333:=Tryz.func133.trans (congrArg some (by kernel_rfl))
 f334:=Tryz.func136.trans (congrArg some (by kernel_rfl))
 f335:=Tryz.func137.trans (congrArg some (by kernel_rfl))
 f336:=Tryz.func138.trans (congrArg some (by kernel_rfl))
 f344:=Tryz.func157.trans (congrArg some (by kernel_rfl))
 t0:=Tryz.underlying0
 a0:=Tryz.isAgg0
 z0:=Tryz.sizeOf0
 v0:=Tryz.zeroValue0
 t3:=Tryz.underlying3
 a3:=Tryz.isAgg3
 z3:=Tryz.sizeOf3
 v3:=Tryz.zeroValue3
 t4:=Tryz.underlying4
 a4:=Tryz.isAgg4
 z4:=Tryz.sizeOf4
 v4:=Tryz.zeroValue4
 t5:=Tryz.underlying5
 a5:=Tryz.isAgg5
 z5:=Tryz.sizeOf5
 v5:=Tryz.zeroValue5
 t9:=Tryz.underlying9
 a9:=Tryz.isAgg9
 z9:=Tryz.sizeOf9
 v9:=Tryz.zeroValue9
 t31:=Tryz.underlying29
 a31:=Tryz.isAgg29
 z31:=Tryz.sizeOf29
 v31:=Tryz.zeroValue29
 t46:=Tryz.underlying43
 a46:=Tryz.isAgg43
 z46:=Tryz.sizeOf43
 v46:=Tryz.zeroValue43
 t51:=Tryz.underlying135
 a51:=Tryz.isAgg135
 z51:=Tryz.sizeOf135
 v51:=Tryz.zeroValue135
 t53:=Tryz.underlying137
 a53:=Tryz.isAgg137
 z53:=Tryz.sizeOf137
 v53:=Tryz.zeroValue137
 t131:=Tryz.underlying132
 a131:=Tryz.isAgg132
 z131:=Tryz.sizeOf132
 v131:=Tryz.zeroValue132
 t182:=Tryz.underlying127
 a182:=Tryz.isAgg127
 z182:=Tryz.sizeOf127
 v182:=Tryz.zeroValue127
 t183:=Tryz.underlying128
 a183:=Tryz.isAgg128
 z183:=Tryz.sizeOf128
 v183:=Tryz.zeroValue128
 t218:=Tryz.underlying162
 a218:=Tryz.isAgg162
 z218:=Tryz.sizeOf162
 v218:=Tryz.zeroValue162
 t222:=Tryz.underlying166
 a222:=Tryz.isAgg166
 z222:=Tryz.sizeOf166
 v222:=Tryz.zeroValue166
 t228:=Tryz.underlying191
 a228:=Tryz.isAgg191
 z228:=Tryz.sizeOf191
 v228:=Tryz.zeroValue191
 t229:=Tryz.underlying192
 a229:=Tryz.isAgg192
 z229:=Tryz.sizeOf192
 v229:=Tryz.zeroValue192 }
def Tryz.lays194_ren:Go.Shelf.Ren:=⟨λ| 194=>100 | n=>n,λ| 31=>29 | 9=>9 | 3=>3 | 4=>4 | 0=>0 | n=>n,λ| n=>n⟩
theorem Tryz.lays194:Go.Proofs.Lays.n194 Tryz.prog Tryz.lays194_ren:={
 mixed:=by kernel_rfl
 f194:=Tryz.func100.trans (congrArg some (by kernel_rfl))
 t0:=Tryz.underlying0
 a0:=Tryz.isAgg0
 z0:=Tryz.sizeOf0
 v0:=Tryz.zeroValue0
 t3:=Tryz.underlying3
 a3:=Tryz.isAgg3
 z3:=Tryz.sizeOf3
 v3:=Tryz.zeroValue3
 t4:=Tryz.underlying4
 a4:=Tryz.isAgg4
 z4:=Tryz.sizeOf4
 v4:=Tryz.zeroValue4
 t9:=Tryz.underlying9
 a9:=Tryz.isAgg9
 z9:=Tryz.sizeOf9
 v9:=Tryz.zeroValue9
 t31:=Tryz.underlying29
 a31:=Tryz.isAgg29
 z31:=Tryz.sizeOf29
 v31:=Tryz.zeroValue29 }
end Go.Proofs
end

noncomputable section
namespace Go.Proofs.YtfgegilhjlnohaaGreat
open Go.RowKit
set_option linter.unusedSimpArgs false
set_option linter.unusedVariables false
theorem PCall.ofCallsG{P:Program}{f:FuncId}{args:List V}{r:D}{R:Value}(hn:isFn P f=true)(hr:∀ G w,DRel G w r R)
  (h:∀ w us,(∃ C,GlobOk C w)->us.size=args.length->(∀ (j:Nat) x u,args[j]? = some x->us[j]? = some u->∃ C,VRel C w x u)->Calls P f us w λe w' => e = .returned R/\Below w.heap.size w w'):PCall P f args r :=
 ⟨hn,λC w us hg hs hrel=>(h w us ⟨C,hg⟩ hs λj x u hx hu=>⟨_,hrel j x u hx hu⟩).mono λ_ _ ⟨he,hb⟩=>⟨R,he,hr _ _,hb⟩⟩
theorem Qto{C:Nat->Nat->Prop}{w:World}{l:List UInt8}{u:Value}(h:VRel C w (sV l) u):u = .string ⟨l.toArray⟩:=by cases h; rfl
theorem Q6v{C:Nat->Nat->Prop}{w:World}{k:IntKind}{n:Int}{u:Value}(h:VRel C w (.v (.int k n)) u):u = .int k n:=by cases h; rfl
theorem Qu5{w w' : World}(h:w' = w):Below w.heap.size w w' := by subst h; exact Below.refl _ _
theorem Q6w{p:Prop}[Decidable p]{R:Type}{f:Unit->Option R}{r:R}(h:(need p>>=f)=some r):p/\f ()=some r:=by
 unfold need at h;split at h
 .exact⟨by assumption,h⟩
 .cases h
theorem PCall.ofY{f:FuncId}{fn:Func}{c:Code}(lv:List (Nat×List Nat))(hf:Tryz.prog.funcs[f]? = some fn){args:List V}{r:D}(h:bwp (0,0) Tryz.prog tb fn.ntmps lv c (retQ tb fn.results.toList λd=>LeD d r) ⟨Qv7 args 0,⟨[],[]⟩⟩)
  (hb:fn.body=some c:=by exact rfl) (hn:isFn Tryz.prog f=true:=by kernel_rfl) (hN:args.length<=fn.ntmps:=by exact Nat.le_of_ble_eq_true rfl):PCall Tryz.prog f args r:=PCall.ofB mixed tbOk lv hf hb hn hN h
theorem Q6x(l:List UInt8)(c:Int):PCall Tryz.prog 174 [sV l,nV .u8 c] (.p (iV (Lib.indexByte l c.toNat.toUInt8))):=by
 refine PCall.ofCallsG (by kernel_rfl) (λ_ _ =>.p _ _ (.v _ rfl)) λw us _ hs h=>?_
 obtain⟨a,b,rfl⟩:=us2 hs;obtain⟨_,h0⟩:=h 0 _ a rfl rfl;obtain⟨_,h1⟩:=h 1 _ b rfl rfl;rw[Qto h0,Q6v h1];exact(Tryz.stringslite_IndexByte _ c w).mono λe w' ⟨he,hw⟩=>⟨he,Qu5 hw⟩
theorem Qahb(l s:List UInt8)(hl:l.length<4294967281):PCall Tryz.prog 167 [sV l,sV s] (.p (iV (Lib.index l s))):=by
 refine PCall.ofCallsG (by kernel_rfl) (λ_ _ =>.p _ _ (.v _ rfl)) λw us hg hs h=>?_
 obtain⟨a,b,rfl⟩:=us2 hs;obtain⟨_,h0⟩:=h 0 _ a rfl rfl;obtain⟨_,h1⟩:=h 1 _ b rfl rfl;obtain⟨_,hg⟩:=hg;obtain⟨m,-,hm⟩:=hg.1 0 (by simp[Qadh]);rw[Qto h0,Qto h1];exact(Tryz.stringslite_Index _ _ m w (by show l.toArray.size<_; simpa using hl) hm).mono λe w' ⟨he,hw⟩=>⟨he,Qu5 hw⟩
end Go.Proofs.YtfgegilhjlnohaaGreat
end
noncomputable section
namespace Go.Proofs.YtfgegilhjlnohaaGreat
open Go.RowKit Go.Sort Go.Shelf
theorem Q6y(s:List UInt8):encStr s=Qd1 s:=rfl
theorem SRow.holds{w:World}{b e:Nat}{us:Array Value}{ss:List (List UInt8)}(h:SRow w b e us ss):Holds encStr w b 0 ss.toArray:=λj hj=>by
 have hj:j<ss.length:=by simpa using hj
 have h1:=h.cell j ss[j] (List.getElem?_eq_getElem hj);have hus:j<us.size:=by have:=h.len; omega
 have e1:ss.toArray[j]! = ss[j]:=by simp[hj]
 rw[Nat.zero_add,e1,Q6y];refine⟨?_,?_⟩
 .simp[World.cell?,h.row,h1]
 .simp[World.frozen?,h.row]
theorem Qvp{w:World}{b e n:Nat}{us:Array Value}{ss:List (List UInt8)}(h:SRow w b e us ss)(hn:us.size=n)(q:Nat)(d:Array (List UInt8))(hd:d.size<=us.size)(ss' : List (List UInt8))(hs:∀ (i:Nat) s,ss'[i]? = some s->d[i]? = some s)(os:Array Obj) :
  Qaax w (grow (putRow encStr (Sort.ahead w q) b 0 d) os) b e n ss' := by
 have hbl:b<w.heap.size:=(Array.getElem?_eq_some_iff.1 h.row).1;have hlen:ss'.length<=d.size:=by
  by_cases hz:ss'.length=0
  .omega
  .have:=hs (ss'.length-1) ss'[ss'.length-1] (List.getElem?_eq_getElem (by omega));have:=(Array.getElem?_eq_some_iff.1 this).1;omega
 have hsz:(putRow encStr (Sort.ahead w q) b 0 d).heap.size=w.heap.size:=by simp[putRow,mapBlock,Sort.ahead]
 have hget:∀ k,k<w.heap.size->(grow (putRow encStr (Sort.ahead w q) b 0 d) os).heap[k]? = (putRow encStr (Sort.ahead w q) b 0 d).heap[k]? := λk hk=>by
  show((putRow encStr (Sort.ahead w q) b 0 d).heap++os)[k]? = _;rw[Array.getElem?_append_left (by omega)]
 refine⟨rfl,rfl,rfl,?_,λk hk hne=>?_,putCells encStr 0 d us,⟨?_,?_,λi s hi=>?_⟩,?_⟩
 .show w.heap.size<=((putRow encStr (Sort.ahead w q) b 0 d).heap++os).size;rw[Array.size_append]; omega
 .rw[hget k hk];simp[putRow,mapBlock,Sort.ahead,Array.getElem?_modify,Ne.symm hne]
 .rw[hget b hbl];simp[putRow,mapBlock,Sort.ahead,Array.getElem?_modify,h.row,onCells]
 .simp[putCells]; omega
 .have hd2:=hs i s hi;have hil:=(Array.getElem?_eq_some_iff.1 hd2).1;have e1:d[i]=s:=(Array.getElem?_eq_some_iff.1 hd2).2;simp only[putCells,Array.getElem?_mapIdx];rw[Array.getElem?_eq_getElem (show i<us.size by omega)];simp[hil,Q6y,e1]
 .simp[putCells,hn]
theorem Qai6{P:Program}{ρ : Ren}(L:Lays.n190 P ρ)(hfn:isFn P (ρ.f 190)=true)(ss:List (List UInt8))(hl:ss.length<4611686018427387904):FnT P (ρ.f 190) #[] false ss (ss.mergeSort λx y=>decide (x<=y)):=by
 refine⟨hfn,by simp,λ_=>by simp,λw a cap h1 h2=>⟨λh0=>?_,λb us e ha hus hc hS=>?_⟩⟩
 .exact(calls_of_every_depth λD=>AnyS.slices_Sort_string_none_alone L D a 0 w).mono λen w' ⟨he,hw⟩=>⟨he,by rw[hw]; exact .refl _ _⟩
 .subst ha;refine(calls_of_every_depth λD=>AnyS.slices_Sort_string_alone L D b 0 cap ss w hS.holds (Array.getElem?_eq_some_iff.1 hS.row).1 hl).mono λen w' ⟨he,n,os,hw⟩=>⟨he,?_⟩
  rw[hw];exact Qvp hS hus n _ (by simp; exact hS.len) _ (λi s hi=>by simpa using hi) os
theorem Qya(zs:List (List UInt8)):(Lib.compact zs).length<=zs.length:=by
 unfold Lib.compact Lib.compactUpTo;rw[List.length_map];have:=List.length_filter_le (Lib.keeps zs.toArray) (List.range zs.length)
 rwa [List.length_range] at this
theorem Qacp{P:Program}{ρ : Ren}(L:Lays.n194 P ρ)(hfn:isFn P (ρ.f 194)=true)(ss:List (List UInt8))(hl:ss.length<4611686018427387904):FnT P (ρ.f 194) #[] true ss (Lib.compact ss):=by
 refine⟨hfn,Qya ss,λh=>(nomatch h),λw a cap h1 h2=>⟨λh0=>?_,λb us e ha hus hc hS=>?_⟩⟩
 .exact(calls_of_every_depth λD=>AnyS.slices_Compact_string_empty_in L D a 0 w).mono λen w' ⟨he,hw⟩=>⟨he,by rw[hw]; exact .refl _ _⟩
 .subst ha;refine(calls_of_every_depth λD=>AnyS.slices_Compact_string_in L D b 0 cap ss w hS.holds (by omega) h1).mono λen w' ⟨he,q,hw⟩=>⟨he,?_⟩
  have hcl:=Qya ss;have:=Qvp hS hus q (Lib.compact ss++List.replicate (ss.length-(Lib.compact ss).length) []).toArray (by simp; have:=hS.len; omega) (Lib.compact ss) (λi s hi=>by
   have:=(List.getElem?_eq_some_iff.1 hi).1;rw[List.getElem?_toArray,List.getElem?_append_left this]; exact hi) #[]
  rw[hw];simpa using this
end Go.Proofs.YtfgegilhjlnohaaGreat
end

noncomputable section
namespace Go.Proofs.YtfgegilhjlnohaaGreat
open Go.RowKit
set_option linter.unusedSimpArgs false
set_option linter.unusedVariables false
section
variable {P:Program} {tb:Tbl}
theorem Qahc{G G' : Gh}{w w' : World}{n m:Nat}{I J:List Nat}(hE:Ex (n,m) G w G' w')(hn:G.name.length=n)(hm:G.tok.length=m)(hI:∀ i ∈ I,i<G'.name.length)(hJ:∀ j ∈ J,j<G'.tok.length)(hdI:I.take n=List.range n)(hid:J.take m=List.range m):Stp G w (G'.sub I J) w' := by
 have low:∀ {K:List Nat} {m t:Nat},K.take m=List.range m->t<m->K[t]? = some t:=λ{K m t} h hl=>by
  have:=congrArg (·[t]?) h;simp only[List.getElem?_take,if_pos hl,Qtn hl] at this;exact this
 refine⟨⟨hE.ext.os,hE.ext.tape,hE.ext.output,hE.ext.size,hE.ext.com,hE.ext.old,hE.ext.new,λb hb=>?_,hE.ext.mono,hE.ext.shp⟩,λnm b hb=>?_,λt T ht=>?_⟩
 .rcases hb with hb | ⟨T,hT,hb⟩
  .exact hE.ext.mine b (.inl (Qfq hI hb))
  .exact hE.ext.mine b (.inr ⟨T,Qfq hJ hT,hb⟩)
 .have hl:nm<n:=by rw[<-hn]; exact(List.getElem?_eq_some_iff.1 hb).1
  have hk:=low hdI hl;rw[Qn7 hk (hI nm (List.mem_of_getElem? hk))];exact hE.name nm b hl hb
 .have hl:t<m:=by rw[<-hm]; exact(List.getElem?_eq_some_iff.1 ht).1
  obtain⟨T', h1,h2⟩:=hE.tok t T hl ht;have hJt:=low hid hl;exact⟨T', by rw[Qpz hJt (hJ t (List.mem_of_getElem? hJt))]; exact h1,h2⟩
structure EndN (n m:Nat) (s' : S) (r d:D) (t:S):Prop where
 ex:∃ I J,Qaco n t.heap.length I=true/\Qaco m t.live.length J=true/\LeD d (r.ren I J)/\LeH (t.heap.take n) ((s'.heap.take n).map λcs=>cs.map (D.ren I J)) /\
  (I.drop n).map (t.heap.getD · [])=(s'.heap.drop n).map (λcs=>cs.map (D.ren I J))/\J.map (t.live.getD · 0)=s'.live
def Qaet(ds:List D):D:=match ds with
 | [d]=>d
 | ds =>.tup ds
def Qak5(tb:Tbl)(rs:List ResultVar)(R:D->S->Prop)(e:Exit)(σ : St):Prop :=
 match e with
 | .normal=>Qgh tb σ rs λds=>R (Qaet ds) σ.s
 | .ret=>Qgh tb σ rs λds=>R (Qaet ds) σ.s
 | _=>False
theorem Qaeu{G:Gh}{w:World}{ds:List D}{us:List Value}(hl:us.length=ds.length)(h:∀ (j:Nat) d u,ds[j]? = some d->us[j]? = some u->DRel G w d u) :
  DRel G w (Qaet ds) (if h:us.toArray.size=1 then us.toArray[0] else .tuple us.toArray):=by
 unfold Qaet;split
 .rename_i d
  match us,hl with
  | [u],_=>exact h 0 _ u rfl rfl
 .rename_i hne;have hsz:¬ us.toArray.size=1:=by
   intro h1;have h2:ds.length=1:=by rw[<-hl]; simpa using h1
   match ds,h2 with
   | [d],_=>exact hne d rfl
  rw[dif_neg hsz];exact .tup _ _ (by simp[hl]) λj c u hc hu=>h j c u hc (by simpa using hu)
theorem CallOK.ofTN(hT:TblOk P tb){f:FuncId}{fn:Func}{c:Code}(hf:P.funcs[f]? = some fn)(hb:fn.body=some c)(hn:isFn P f=true){args:List D}(hN:args.length<=fn.ntmps){s s' : S}{r:D}
  (hr:r.lt s'.heap.length s'.live.length=true) (hs:s'.heap.all (λcs=>cs.all (D.lt s'.heap.length s'.live.length))=true)
  (hn' : s.heap.length<=s'.heap.length)
  (h:T (s.heap.length,s.live.length) P fn.ntmps c (λe σ => ∃ τ,Le (s.heap.length,s.live.length) fn.ntmps σ τ /\ Qak5 tb fn.results.toList (EndN s.heap.length s.live.length s' r) e τ) ⟨Qsi args 0,s⟩):CallOK P f args s r s' := by
 refine⟨hn,λG w us hI hl hrel=>?_⟩;have hR:Rel fn.ntmps G ⟨Qsi args 0,s⟩ { tmps:=us++Array.replicate (fn.ntmps-us.size) undef,defers:=[] } w:=by
  refine⟨hI,λt d hd=>?_,by simp; omega⟩;obtain⟨h1,h2⟩:=Qm8 args 0 t d hd;have hlt:t<args.length:=(List.getElem?_eq_some_iff.1 h1).1;have hlt2:t<us.size:=by omega
  refine⟨by simp; omega,?_⟩;refine hrel t d _ h1 ?_;simp only[Array.getD_eq_getD_getElem?,Array.getElem?_append_left hlt2,Array.getElem?_eq_getElem hlt2,Option.getD_some]
 have hln:G.name.length=s.heap.length:=hI.names;have hlt:G.tok.length=s.live.length:=by rw[<-hI.live]; simp
 refine Qm9 hf hb (T_up h λe σ' hq=>hq) hR λe G' σ' a' w' hE hR' hq=>?_
 have key:∀ (hq:Qgh tb σ' fn.results.toList λds=>EndN s.heap.length s.live.length s' r (Qaet ds) σ'.s),∃ v,(results fn a'.tmps).run P w' = .ok v w' /\
   ∃ u G', Ending.returned v = .returned u/\Stp G w G' w' /\ Inv G' s' w' /\ DRel G' w' r u:=λhq=>by
  obtain⟨ds,us', h1,h2,h3,⟨I,J,hI0,hJ0,h4,h5,h5b,h6⟩⟩:=Qfp hT hR' _ _ hq;unfold Qaco at hJ0 hI0;simp only[Bool.and_eq_true] at hJ0 hI0;obtain⟨⟨hI1,hI2⟩,hI3⟩:=hI0;obtain⟨⟨hJ1,hJ2⟩,hJ3⟩:=hJ0;have nI:=Qc7 I hI1;have nJ:=Qc7 J hJ1;have bI:=Qkd hI2;have bJ:=Qkd hJ2;have hI3' : I.take s.heap.length=List.range s.heap.length:=by simpa using hI3
  have lT:G'.tok.length = σ'.s.live.length:=by have:=congrArg List.length hR'.inv.live; simpa using this
  have lN:G'.name.length = σ'.s.heap.length:=hR'.inv.names;have hd:=(Qaeu h2 h3).le h4;have h7:=LeH.app h5 (LeH.refl (σ'.s.heap.drop s.heap.length));rw[List.take_append_drop] at h7;have hinv1:=Inv.le (h := σ'.s.heap) (live := σ'.s.live) hR'.inv h7;have hlen:((s'.heap.take s.heap.length).map λcs=>cs.map (D.ren I J)).length=s.heap.length:=by rw[List.length_map,List.length_take]; omega
  have hlI:I.length=s'.heap.length:=by
   have e1:=congrArg List.length h5b;have e2:=congrArg List.length hI3';simp only[List.length_map,List.length_drop,List.length_take,List.length_range] at e1 e2;omega
  have hlJ:J.length=s'.live.length:=by rw[<-h6]; simp
  have hll:((s'.heap.take s.heap.length).map (λcs=>cs.map (D.ren I J)) ++ σ'.s.heap.drop s.heap.length).length = σ'.s.heap.length:=by
   have:=hinv1.names;rw[<-this,lN]
  have up:∀ i ∈ I.drop s.heap.length,s.heap.length<=i:=λi hi=>by
   refine Nat.le_of_not_lt λhlt=>?_
   have e:(I.take s.heap.length++I.drop s.heap.length).Nodup:=by rw[List.take_append_drop]; exact nI
   refine(List.nodup_append.1 e).2.2 i ?_ i hi rfl;rw[hI3']; exact List.mem_range.2 hlt
  have hinv2:Inv (G'.sub I J) ⟨s'.heap,s'.live⟩ w' := hinv1.sub (I:=I) (J:=J) nI nJ (λi hi=>by rw[hll]; exact bI i hi) bJ (by
   have e:=Qx6 ((s'.heap.take s.heap.length).map λcs=>cs.map (D.ren I J)) (σ'.s.heap.drop s.heap.length) [];rw[hlen] at e;have e2:(I.drop s.heap.length).map (((s'.heap.take s.heap.length).map (λcs=>cs.map (D.ren I J)) ++ σ'.s.heap.drop s.heap.length).getD · [])=(s'.heap.drop s.heap.length).map (λcs=>cs.map (D.ren I J)):=by
    rw[<-h5b];refine List.map_congr_left λi hi=>?_
    have hi2:=up i hi;simp only[List.getD];rw[List.getElem?_append_right (by omega),List.getElem?_drop,hlen];congr 2; omega
   have e3:I=List.range s.heap.length++I.drop s.heap.length:=by rw[<-hI3', List.take_append_drop]
   have e4:s'.heap.map (λcs=>cs.map (D.ren I J))=(s'.heap.take s.heap.length).map (λcs=>cs.map (D.ren I J))++(s'.heap.drop s.heap.length).map (λcs=>cs.map (D.ren I J)):=by rw[<-List.map_append,List.take_append_drop]
   exact(congrArg (List.map _) e3).trans (by rw[List.map_append,e,e2,e4])) h6 (by rw[hlI,hlJ]; exact hs)
  have hst:Stp G w (G'.sub I J) w' := Qahc hE hln hlt (λi hi=>by rw[lN]; exact bI i hi) (λj hj=>by rw[lT]; exact bJ j hj) hI3' (by simpa using hJ3);refine⟨if h:us'.toArray.size=1 then us'.toArray[0] else .tuple us'.toArray,?_,_,_,rfl,hst,hinv2,Q20 (λi hi=>by rw[lN]; exact bI i hi) (λj hj=>by rw[lT]; exact bJ j hj) (by rw[hlI,hlJ]; exact hr) hd⟩;unfold results;rw[Sem.run_bind,Array.mapM_eq_mapM_toList,Sem.run_map]
  erw [h1]
  rfl
 cases e with
 | normal=>exact⟨.inl rfl,key hq⟩
 | ret=>exact⟨.inr rfl,key hq⟩
 | _=>exact hq.elim
theorem CallOK.ofBN(hm:P.follows .mixedOrders=true)(hT:TblOk P tb){f:FuncId}{fn:Func}{c:Code}(lv:List (Nat×List Nat))(hf:P.funcs[f]? = some fn)(hb:fn.body=some c)(hn:isFn P f=true){args:List D}(hN:args.length<=fn.ntmps){s s' : S}{r:D}
  (hr:r.lt s'.heap.length s'.live.length=true) (hs:s'.heap.all (λcs=>cs.all (D.lt s'.heap.length s'.live.length))=true)
  (hn' : s.heap.length<=s'.heap.length)
  (h:bwp (s.heap.length,s.live.length) P tb fn.ntmps lv c (λe σ => ∃ τ,Le (s.heap.length,s.live.length) fn.ntmps σ τ /\ Qak5 tb fn.results.toList (EndN s.heap.length s.live.length s' r) e τ) ⟨Qsi args 0,s⟩):CallOK P f args s r s' :=
 CallOK.ofTN hT hf hb hn hN hr hs hn' (Qaq hm hT c _ _ h)
theorem Qai7{α : Type}{x y : α}{d:D}{u:S}{n m:Nat}{t : α -> D}{ss : α -> S}(h:some x=some y)(k:EndN n m (ss x) (t x) d u):EndN n m (ss y) (t y) d u:=by cases h; exact k
end
theorem Q3g{p:Prop}[Decidable p]{R:Type}{f:Unit->Option R}{r:R}{φ : Prop}(h:(need p>>=f)=some r)(k:p->f ()=some r -> φ) : φ := by
 unfold need at h;split at h
 .rename_i hp; exact k hp h
 .cases h
def noTD(t:Nat):D->Bool
 | .agg ds=>ds.all (noT1 t)
 | .tup ds=>ds.all (noT1 t)
 | .fn _ x y=>x.all (noT1 t)&&y.all (noT1 t)
 | d=>noT1 t d
def Qahd(t q:Nat):Env->Bool
 | []=>false
 | (s,d)::r=>if s=q then r.all (λp=>noTD t p.2) else noTD t d&&Qahd t q r
theorem Q9g{t v v' : Nat}{d:D}(h:noT1 t d=true):ver1 t v v' d=d:=by
 cases d with
 | x t' w X =>
  have:t' ≠ t:=by simpa [noT1] using h
  simp[ver1,this]
 | _=>rfl
theorem Qai8{t v v' : Nat}{ds:List D}(h:ds.all (noT1 t)=true):ds.map (ver1 t v v')=ds:=by
 rw[List.all_eq_true] at h;exact(List.map_congr_left (g:=id) λd hd=>Q9g (h d hd)).trans (List.map_id ds)
theorem Qaev{t v v' : Nat}{d:D}(h:noTD t d=true):verD t v v' d=d:=by
 cases d with
 | agg ds=>exact congrArg D.agg (Qai8 h)
 | x t' w X=>exact Q9g (d :=.x t' w X) h
 | _=>rfl
theorem Qaew{t v v' : Nat}:∀ {env:Env},env.all (λp=>noTD t p.2)=true->verE t v v' env=env
 | [],_=>rfl
 | (s,d)::r,h=>by
  simp only[List.all_cons,Bool.and_eq_true] at h;rw[verE,Qaev h.1,Qaew h.2]
theorem Qah5{t v:Nat}{d:D}(h:noTD t d=true):okT t v d=true:=by
 have one:∀ d:D,noT1 t d=true->okT1 t v d=true:=λd h=>by
  cases d with
  | x t' w X=>have h:(t' != t)=true:=h; simp[okT1,h]
  | fn _ _ _=>cases h
  | agg _=>cases h
  | tup _=>cases h
  | sf _=>cases h
  | ef _=>cases h
  | _=>exact h
 cases d with
 | agg ds =>
  have h:ds.all (noT1 t)=true:=h;rw[List.all_eq_true] at h;exact List.all_eq_true.2 λd hd=>one d (h d hd)
 | tup ds=>exact h
 | fn _ x y=>exact h
 | sf _=>cases h
 | ef _=>cases h
 | p x=>exact one (.p x) h
 | ptr a b=>exact one (.ptr a b) h
 | own a b c e=>exact one (.own a b c e) h
 | yld a b c=>exact one (.yld a b c) h
 | sp a b c d e=>exact one (.sp a b c d e) h
 | x a b c=>exact one (.x a b c) h
 | mh a=>exact one (.mh a) h
 | undef=>exact one .undef h
theorem Qaex{t q v v' : Nat}{X:XD}:∀ {env:Env},Qahd t q env=true->env.lookup q=some (.x t v X)->verE t v v' env=setE env q (.x t v' X)/\env.all (λp=>okT t v p.2)=true
 | [],h,_=>by cases h
 | (s,d)::r,h,hl=>by
  unfold Qahd at h;by_cases hs:s=q
  .rw[if_pos hs] at h;subst hs;simp only[List.lookup_cons,beq_self_eq_true,Option.some.injEq] at hl;subst hl;refine⟨?_,?_⟩
   .rw[verE,Qaew h,setE,if_pos rfl]; simp[verD,ver1]
   .simp only[List.all_cons,Bool.and_eq_true];refine⟨by simp[okT,okT1],?_⟩;rw[List.all_eq_true] at h ⊢;exact λp hp=>Qah5 (h p hp)
  .rw[if_neg hs] at h;simp only[Bool.and_eq_true] at h;have hb:(q==s)=false:=by simpa using Ne.symm hs
   rw[List.lookup_cons,hb] at hl;obtain⟨e1,e2⟩:=Qaex h.2 hl;refine⟨?_,?_⟩
   .rw[verE,Qaev h.1,e1,setE,if_neg hs]
   .simp only[List.all_cons,Bool.and_eq_true]; exact⟨Qah5 h.1,e2⟩
def noTH(t:Nat):D->Bool
 | .tup [.p _]=>true
 | .fn _ x y=>x.all (noT1 t)&&y.all (noT1 t)
 | d=>noT1 t d
theorem Qai9{t v v' : Nat}{d:D}(h:noTH t d=true):ver1 t v v' d=d:=by
 cases d with
 | x t' w X=>exact Q9g (d :=.x t' w X) h
 | _=>rfl
theorem Qaja{t v:Nat}{d:D}(h:noTH t d=true):okT1 t v d=true:=by
 cases d with
 | x t' w X=>have h:(t' != t)=true:=h; simp[okT1,h]
 | fn _ _ _=>exact h
 | agg _=>cases h
 | tup ds =>
  match ds,h with
  | [.p _],_=>rfl
 | sf _=>cases h
 | ef _=>cases h
 | p x=>exact h
 | ptr a b=>exact h
 | own a b c e=>exact h
 | yld a b c=>exact h
 | sp a b c d e=>exact h
 | mh a=>exact h
 | undef=>exact h
theorem Le.verh{B:Nat×Nat}{N:Nat}{env:Env}{s:S}(q t v v' : Nat){X:XD}(h:s.live[t]? = some v)(hg:env.lookup q=some (.x t v X))(hE:Qahd t q env=true)(hH:s.heap.all (λcs=>cs.all (noTH t))=true)
  (hB:B.2<=t:=by exact Nat.le_of_ble_eq_true rfl):Le B N ⟨env,s⟩ ⟨setE env q (.x t v' X),⟨s.heap,s.live.set t v'⟩⟩:=by
 obtain⟨e1,e2⟩:=Qaex (v' := v') hE hg;have e3:verH t v v' s.heap=s.heap:=by
  rw[Qwz];rw[List.all_eq_true] at hH;refine(List.map_congr_left (g:=id) λcs hc=>?_).trans (List.map_id s.heap);have:=hH cs hc;rw[List.all_eq_true] at this;exact(List.map_congr_left (g:=id) λd hd=>Qai9 (this d hd)).trans (List.map_id cs)
 have e4:s.heap.all (λcs=>cs.all (okT1 t v))=true:=by
  rw[List.all_eq_true] at hH ⊢;intro cs hc;have:=hH cs hc;rw[List.all_eq_true] at this ⊢;intro d hd;exact Qaja (this d hd)
 have:=Le.ver (B:=B) (N:=N) (env:=env) (s:=s) (.s q) t v v' h hg e2 e4 hB
 rwa [e1,e3] at this
end Go.Proofs.YtfgegilhjlnohaaGreat
end
