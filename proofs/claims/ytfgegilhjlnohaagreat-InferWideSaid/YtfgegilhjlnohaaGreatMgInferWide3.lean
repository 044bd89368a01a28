/- Part 3 of 12. -/
import Derived.Test.YtfgegilhjlnohaaGreatMgInferWide2
import Derived.MapKept

noncomputable section
namespace Go.Proofs.YtfgegilhjlnohaaGreat
open Go.RowKit
set_option linter.unusedSimpArgs false
set_option linter.unusedVariables false
inductive LeV:V->V->Prop where
 | refl (x:V):LeV x x
 | agg (xs ys:List V):xs.length=ys.length->(∀ (j:Nat) x y,xs[j]? = some x->ys[j]? = some y->LeV x y)->LeV (.agg xs) (.agg ys)
 | sl (f f' : Bool) (es es' : List (List V)):(f' = true->f=true)->es.length=es'.length->(∀ (i:Nat) e e', es[i]? = some e->es'[i]? = some e' -> e.length=e'.length) ->
   (∀ (i:Nat) e e', es[i]? = some e->es'[i]? = some e' -> ∀ (k:Nat) c c', e[k]? = some c->e'[k]? = some c' -> LeV c c')->LeV (.sl f es) (.sl f' es')
 | ep (xs ys:List V):xs.length=ys.length->(∀ (j:Nat) x y,xs[j]? = some x->ys[j]? = some y->LeV x y)->LeV (.ep xs) (.ep ys)
 | none (ys:List V):LeV (.v (.pointer none)) (.opt false ys)
 | opt (xs ys:List V):xs.length=ys.length->(∀ (j:Nat) x y,xs[j]? = some x->ys[j]? = some y->LeV x y)->LeV (.ep xs) (.opt true ys)
theorem Qgk{α β : Type}{a:List α}{b:List β}(h:a.length=b.length){i:Nat}{x : β}(hx:b[i]? = some x):∃ y,a[i]? = some y:=by
 have:=(List.getElem?_eq_some_iff.1 hx).1;exact⟨a[i],List.getElem?_eq_getElem (by omega)⟩
theorem VRel.le{C:Nat->Nat->Prop}{w:World}{x y:V}(h:LeV x y):∀ {u:Value},VRel C w x u->VRel C w y u:=by
 induction h with
 | refl x=>exact λh=>h
 | agg xs ys hl _ ih =>
  intro u h;cases h with
  | agg _ us h1 h2 h3 =>
   refine .agg _ _ (by omega) (λj c u hc hu=>?_) (λj c u hc hu=>?_)
   .obtain⟨x,hx⟩:=Qgk hl hc;exact h2 j x u hx hu
   .obtain⟨x,hx⟩:=Qgk hl hc;exact ih j x c hx hc (h3 j x u hx hu)
 | sl f f' es es' hf hl hk _ ih =>
  intro u h;cases h with
  | sl _ _ a cap size b off us g1 g2 g3 g4 g5 g6 g7 g8 =>
   rw[hl] at g1 g3 ⊢;refine .sl f' es' a cap size b off us g1 g2 (λh=>g3 (hf h)) (λe he=>?_) g5 (λi k e c he hc=>?_) (λi k e c he hc=>?_) (λh=>g8 (hf h))
   .obtain⟨i,hi⟩:=List.getElem?_of_mem he;obtain⟨x,hx⟩:=Qgk hl hi;rw[<-hk i x e hx hi];exact g4 x (List.mem_of_getElem? hx)
   .obtain⟨x,hx⟩:=Qgk hl he;obtain⟨y,hy⟩:=Qgk (hk i x e hx he) hc;exact g6 i k x y hx hy
   .obtain⟨x,hx⟩:=Qgk hl he;obtain⟨y,hy⟩:=Qgk (hk i x e hx he) hc;exact ih i x e hx he k y c hy hc (g7 i k x y hx hy)
 | ep xs ys hl _ ih =>
  intro u h;cases h with
  | ep _ b off us h1 h2 =>
   refine .ep _ b off us (λk c hc=>?_) (λk c hc=>?_)
   .obtain⟨x,hx⟩:=Qgk hl hc;exact h1 k x hx
   .obtain⟨x,hx⟩:=Qgk hl hc;exact ih k x c hx hc (h2 k x hx)
 | none ys =>
  intro u h;cases h;exact .opt _ _ _ (λ_=>rfl) (λh=>nomatch h)
 | opt xs ys hl _ ih =>
  intro u h;refine .opt _ _ _ (λh=>nomatch h) (λ_=>?_);cases h with
  | ep _ b off us h1 h2 =>
   refine .ep _ b off us (λk c hc=>?_) (λk c hc=>?_)
   .obtain⟨x,hx⟩:=Qgk hl hc;exact h1 k x hx
   .obtain⟨x,hx⟩:=Qgk hl hc;exact ih k x c hx hc (h2 k x hx)
def LeL(xs ys:List V):Prop:=xs.length=ys.length/\∀ (j:Nat) x y,xs[j]? = some x->ys[j]? = some y->LeV x y
theorem LeL.refl(xs:List V):LeL xs xs:=⟨rfl,λj x y hx hy=>by rw[hx] at hy; cases hy; exact .refl x⟩
theorem LeL.nil:LeL [] [] :=.refl _
theorem LeL.cons{x y:V}{xs ys:List V}(h:LeV x y)(k:LeL xs ys):LeL (x::xs) (y::ys):=by
 refine⟨by simp[k.1],λj a b ha hb=>?_⟩;cases j with
 | zero=>simp at ha hb; subst ha; subst hb; exact h
 | succ j=>exact k.2 j a b ha hb
def LeLL(es es' : List (List V)):Prop:=es.length=es'.length/\∀ (i:Nat) e e', es[i]? = some e->es'[i]? = some e' -> LeL e e'
theorem LeLL.refl(es:List (List V)):LeLL es es:=⟨rfl,λi e e' h h' => by rw[h] at h'; cases h'; exact .refl e⟩
theorem LeLL.nil:LeLL [] [] :=.refl _
theorem LeLL.cons{x y:List V}{xs ys:List (List V)}(h:LeL x y)(k:LeLL xs ys):LeLL (x::xs) (y::ys):=by
 refine⟨by simp[k.1],λj a b ha hb=>?_⟩;cases j with
 | zero=>simp at ha hb; subst ha; subst hb; exact h
 | succ j=>exact k.2 j a b ha hb
theorem LeLL.app{a a' b b' : List (List V)}(h:LeLL a a')(k:LeLL b b'):LeLL (a++b) (a' ++ b'):=by
 refine⟨by simp[h.1,k.1],λi e e' he he' => ?_⟩;by_cases hi:i<a.length
 .rw[List.getElem?_append_left hi] at he;rw[List.getElem?_append_left (by rw[<-h.1]; exact hi)] at he';exact h.2 i e e' he he'
 .rw[List.getElem?_append_right (by omega)] at he;rw[List.getElem?_append_right (by rw[<-h.1]; omega),<-h.1] at he';exact k.2 _ e e' he he'
theorem LeV.agg'{xs ys:List V}(h:LeL xs ys):LeV (.agg xs) (.agg ys) :=.agg _ _ h.1 h.2
theorem LeV.sl'{f f' : Bool}{es es' : List (List V)}(hf:f' = true->f=true)(h:LeLL es es'):LeV (.sl f es) (.sl f' es') :=
 .sl _ _ _ _ hf h.1 (λi e e' he he' => (h.2 i e e' he he').1) (λi e e' he he' => (h.2 i e e' he he').2)
theorem LeV.no{f:Bool}{es es' : List (List V)}(h:LeLL es es'):LeV (.sl f es) (.sl false es') :=.sl' (λh=>nomatch h) h
theorem LeV.not{f:Bool}{es:List (List V)}:LeV (.sl f es) (.sl false es) :=.no (.refl es)
inductive LeD:D->D->Prop where
 | refl (d:D):LeD d d
 | p {x y:V}:LeV x y->LeD (.p x) (.p y)
 | own {t e size:Nat} {es es' : List (List V)}:LeLL es es' -> LeD (.own t e size es) (.own t e size es')
 | drop {t e size:Nat} {f:Bool} {es es' : List (List V)}:f=false->LeLL es es' -> LeD (.own t e size es) (.p (.sl f es'))
 | tup {xs ys:List V}:LeL xs ys->LeD (.tup (xs.map .p)) (.tup (ys.map .p))
theorem LeD.eq{x y:D}(h:x=y):LeD x y:=h ▸ .refl x
theorem DRel.le{G:Gh}{w:World}{d d' : D}{u:Value}(h:DRel G w d u)(k:LeD d d'):DRel G w d' u:=by
 cases k with
 | refl=>exact h
 | p k=>cases h with | p _ _ h=>exact .p _ _ (h.le k)
 | @own t e size es es' k =>
  cases h with
  | own _ _ _ _ _ T h1 h2 h3 h0 h4 h5 =>
   refine .own t e size es' u T (h1.le (.no k)) (λx hx=>?_) h3 h0 (by rw[<-k.1]; exact h4) (by rw[<-k.1]; exact h5);obtain⟨i,hi⟩:=List.getElem?_of_mem hx;obtain⟨y,hy⟩:=Qgk k.1 hi;rw[<-(k.2 i y x hy hi).1];exact h2 y (List.mem_of_getElem? hy)
 | drop hf k=>cases h with | own _ _ _ _ _ T h1=>subst hf; exact .p _ _ (h1.le (.no k))
 | @tup xs ys k =>
  cases h with
  | tup _ us h1 h2 =>
   refine .tup _ _ (by simpa [k.1] using h1) (λj c u hc hu=>?_);rw[List.getElem?_map] at hc;obtain⟨y,hy,rfl⟩:=Option.map_eq_some_iff.1 hc;obtain⟨x,hx⟩:=Qgk k.1 hy;have:=h2 j (.p x) u (by rw[List.getElem?_map,hx]; rfl) hu;cases this with | p _ _ h=>exact .p _ _ (h.le (k.2 j x y hx hy))
def Qaap:Op->Bool
 | .call c=>match c.callee with | .builtin .len=>true | .builtin .append=>true | _=>false
 | .slice _ _ _ _ _=>true
 | .convert _ _ _=>true
 | _=>false
def vw(o:Op)(K:D->S->Prop)(d:D)(s:S):Prop:=match Qaap o with
 | true=>∃ d' live,LeD d d' /\ live=s.live/\K d' ⟨s.heap,live⟩
 | false=>K d s
section
variable {P:Program} {tb:Tbl}
def Qrl(gn:Bool)(P:Program)(tb:Tbl)(o:Op)(e:Operand->Option D)(s:S)(K:D->S->Prop):Prop:=Qf5 gn P tb o e s (vw o K)
theorem Qct(a:Act)(dst:Option Nat)(u:Value):(a.put dst u).defers=a.defers:=by cases dst<;>rfl
theorem Q8n(hT:TblOk P tb){rd:Option Nat}{gn:Bool}{N:Nat}{G:Gh}{σ : St}{a:Act}{w:World}(hR:Rel N G σ a w){o:Oper}{K:D->S->Prop}(h:Qrl gn P tb o.op (ev σ.env) σ.s K)
  {next:Act->World->Prop} {Q:Exit->Act->World->Prop} (hn:∀ u w' G' d s', Stp G w G' w' -> Inv G' s' w' -> DRel G' w' d u->K d s' -> next (a.put o.dst u) w'):o.wpIn (FW rd) 0 P a w next Q:=by
 refine Q8i hT hR h λu w' G' d s' h1 h2 h3 h4=>?_
 unfold vw at h4;split at h4
 .obtain⟨d', live,hd,rfl,hk⟩:=h4;exact hn u w' G' d' s' h1 h2 (h3.le hd) hk
 .exact hn u w' G' d s' h1 h2 h3 h4
theorem Qad2{P:Program}(o:Op)(e:Operand->Option D):Loc (Qrk o) λs K=>Qrl false P tb o e s K:=by
 intro s K h;obtain⟨d,s1,h1,h2,h3,h4⟩:=Qadz (tb:=tb) o e s _ h;cases hv:Qaap o with
 | false =>
  have e:∀ K d s,vw o K d s=K d s:=λK d s=>by unfold vw; rw[hv]
  rw[e] at h1;refine⟨d,s1,h1,h2,h3,λs' K' e1 e2 hk=>h4 s' _ e1 e2 ?_⟩;rw[e]; exact hk
 | true =>
  have e:∀ K d (s:S),vw o K d s=∃ d' live,LeD d d' /\ live=s.live/\K d' ⟨s.heap,live⟩:=λK d s=>by unfold vw; rw[hv]
  rw[e] at h1;obtain⟨d', live,hd,rfl,hk⟩:=h1;refine⟨d', s1,hk,h2,h3,λs' K' e1 e2 hk' => h4 s' _ e1 e2 ?_⟩;rw[e]; exact⟨d', _,hd,rfl,hk'⟩
theorem Q8o{gn:Bool}(o:Op){e e' : Operand->Option D}(h:∀ x ∈ o.operands.toList,e x=e' x)(s:S)(K:D->S->Prop):Qrl gn P tb o e s K=Qrl gn P tb o e' s K:=Q8l o h s _
def bOne(gn:Bool)(P:Program)(tb:Tbl)(N:Nat)(ops:List Oper)(i:Nat)(σ : St)(K:St->Prop):Prop :=
 match ops[i]? with
 | none=>K σ
 | some o=>match Qzz ops σ.env o.guard with
  | some true=>Qrl gn P tb o.op (ev σ.env) σ.s λd s' => Qvm (Q8j ops i) d λd=>putE N σ.env o.dst d λenv' => K ⟨env', s'⟩
  | some false=>putE N σ.env o.dst .undef λenv' => K ⟨env', σ.s⟩
  | none=>False
def bOps(gn:Bool)(P:Program)(tb:Tbl)(N:Nat)(ops:List Oper):List Nat->St->(St->Prop)->Prop
 | [],σ,K=>K σ
 | i::r,σ,K=>bOne gn P tb N ops i σ λσ' => bOps gn P tb N ops r σ' K
theorem Qhc(hT:TblOk P tb){rd:Option Nat}{gn:Bool}{N:Nat}{G:Gh}{σ : St}{a:Act}{w:World}(hR:Rel N G σ a w){ops:List Oper}{i:Nat}{K:St->Prop}(h:bOne gn P tb N ops i σ K)
  {next:Act->World->Prop} {Q:Exit->Act->World->Prop} (hn:∀ a' w' G' σ', Stp G w G' w' -> Rel N G' σ' a' w' -> a'.defers=a.defers->K σ' -> next a' w'):wpOpIn (FW rd) 0 P ops.toArray Q i next a w:=by
 unfold bOne at h;unfold wpOpIn;split at h
 .rename_i ho;simp only[List.getElem?_toArray,ho];exact hn a w G σ (.refl G w) hR rfl h
 .rename_i o ho;simp only[List.getElem?_toArray,ho];split at h
  .rename_i hw;rw[if_pos (Qjl hR ops o true hw)];refine Q8n hT hR h λu w' G' d s' r1 r2 r3 r4=>?_
   obtain⟨env', q1,q2⟩:=Qky hR r1 r2 r3 (Qsg r4);exact hn _ _ _ _ r1 q1 (Qct _ _ _) q2
  .rename_i hw;rw[if_neg (by rw[Qjl hR ops o false hw]; simp)];refine⟨λf _=>Q50 _ _,?_⟩;obtain⟨env', q1,q2⟩:=Qky hR (.refl G w) hR.inv .undef h;exact hn _ _ _ _ (.refl G w) q1 (Qct _ _ _) q2
  .exact h.elim
theorem Qq4(hT:TblOk P tb){rd:Option Nat}{gn:Bool}{N:Nat}{ops:List Oper}{Q:Exit->Act->World->Prop}{K:St->Prop}{B:Nat×Nat}{G0:Gh}{w0:World}{ds:List Deferred}(hQ:∀ a w G σ,Ex B G0 w0 G w->Rel N G σ a w->a.defers=ds->K σ -> Q .normal a w) :
  ∀ (l:List Nat) (σ : St) (a:Act) (w:World) (G:Gh),Ex B G0 w0 G w->Rel N G σ a w->a.defers=ds->bOps gn P tb N ops l σ K->wpOpsIn (FW rd) 0 P ops.toArray Q l a w
 | [],σ,a,w,G,hE,hR,hd,h=>hQ a w G σ hE hR hd h
 | i::r,σ,a,w,G,hE,hR,hd,h=>by
  rw[wpOpsIn_cons];exact Qhc hT hR h λa' w' G' σ' s1 r1 d1 h1=>Qq4 hT hQ r σ' a' w' G' (hE.trans (s1.ex B)) r1 (d1.trans hd) h1
end
def D.ren1(I J:List Nat):D->D
 | .ptr i o =>.ptr (I.getD i 0) o
 | .own t e s es =>.own (J.getD t 0) e s es
 | .yld P t xs =>.yld P (J.getD t 0) xs
 | .sp P u b i o =>.sp P u b (I.getD i 0) o
 | .x t v X =>.x (J.getD t 0) v X
 | .mh i =>.mh (I.getD i 0)
 | d=>d
def D.renF(I J:List Nat):D->D
 | .fn f a b =>.fn f (a.map (D.ren1 I J)) (b.map (D.ren1 I J))
 | d=>D.ren1 I J d
def D.ren(I J:List Nat):D->D
 | .fn f a b =>.fn f (a.map (D.ren1 I J)) (b.map (D.ren1 I J))
 | .agg a =>.agg (a.map (D.ren1 I J))
 | .tup a =>.tup (a.map (D.ren1 I J))
 | .sf a =>.sf (a.map (D.renF I J))
 | .ef d =>.ef (D.renF I J d)
 | d=>D.ren1 I J d
def tok0:Tok:=⟨0,none,0,none⟩
def Gh.sub(G:Gh)(I J:List Nat):Gh:=⟨G.com,I.map (G.name.getD · 0),J.map (G.tok.getD · tok0)⟩
def updL{α : Type}:List α -> List Nat->List α -> List α
 | H,i::I,n::N=>updL (H.set i n) I N
 | H,_,_=>H
theorem Qn6{α : Type}:∀ (I:List Nat) (N H:List α),(updL H I N).length=H.length
 | [],N,H=>by cases N<;>rfl
 | i::I,[],H=>rfl
 | i::I,n::N,H=>by rw[updL,Qn6 I N]; simp
theorem Qwy{α : Type}:∀ (I:List Nat) (N H:List α) (i:Nat),i ∉ I->(updL H I N)[i]? = H[i]?
 | [],N,H,i,_=>by cases N<;>rfl
 | k::I,[],H,i,_=>rfl
 | k::I,n::N,H,i,h=>by
  rw[updL,Qwy I N _ i (λhm=>h (by simp[hm])),List.getElem?_set_ne (λe=>h (by simp[e]))]
theorem Q8p{α : Type}:∀ (I:List Nat) (N H:List α) (k i:Nat) (n : α),I.Nodup->(∀ x ∈ I,x<H.length)->I[k]? = some i->N[k]? = some n->(updL H I N)[i]? = some n
 | [],N,H,k,i,n,_,_,hi,_=>by simp at hi
 | x::I,[],H,k,i,n,_,_,_,hn=>by simp at hn
 | x::I,m::N,H,k,i,n,hd,hl,hi,hn=>by
  rw[updL];cases k with
  | zero =>
   simp at hi hn;subst hi; subst hn;rw[Qwy I N _ x (List.nodup_cons.1 hd).1,List.getElem?_set_self (hl x (by simp))]
  | succ k=>exact Q8p I N _ k i n (List.nodup_cons.1 hd).2 (λy hy=>by simpa using hl y (by simp[hy])) (by simpa using hi) (by simpa using hn)
theorem Qpy{α : Type}{l:List α}(h:l.Nodup){i j:Nat}{x : α}(hi:l[i]? = some x)(hj:l[j]? = some x):i=j:=by
 obtain⟨li,ei⟩:=List.getElem?_eq_some_iff.1 hi;obtain⟨lj,ej⟩:=List.getElem?_eq_some_iff.1 hj;have hp:=List.pairwise_iff_getElem.1 h;rcases Nat.lt_trichotomy i j with h1 | h1 | h1
 .exact absurd (ei.trans ej.symm) (hp i j li lj h1)
 .exact h1
 .exact absurd (ej.trans ei.symm) (hp j i lj li h1)
theorem Qags{α : Type}{l:List α}(h:∀ (i j:Nat) x,l[i]? = some x->l[j]? = some x->i=j):l.Nodup:=by
 refine List.pairwise_iff_getElem.2 λi j hi hj hlt he=>?_
 have:=h i j l[i] (List.getElem?_eq_getElem hi) (by rw[he]; exact List.getElem?_eq_getElem hj);omega
theorem Qam1{α : Type}{l:List α}{i:Nat}{x d : α}(h:l[i]? = some x):l.getD i d=x:=by simp[List.getD,h]
theorem Qbt{α : Type}{l:List α}{i:Nat}(h:i<l.length)(d : α):l[i]? = some (l.getD i d):=by simp[List.getD,h]
section
variable {I J:List Nat}
theorem Qn7{G:Gh}{k i:Nat}(h:I[k]? = some i)(hi:i<G.name.length):(G.sub I J).name[k]? = G.name[i]? := by
 show(I.map (G.name.getD · 0))[k]? = _;rw[List.getElem?_map,h,Qbt hi 0]; rfl
theorem Qpz{G:Gh}{k i:Nat}(h:J[k]? = some i)(hi:i<G.tok.length):(G.sub I J).tok[k]? = G.tok[i]? := by
 show(J.map (G.tok.getD · tok0))[k]? = _;rw[List.getElem?_map,h,Qbt hi tok0]; rfl
theorem Qdu{G:Gh}{w:World}{d:D}{u:Value}(hI:∀ i ∈ I,i<G.name.length)(hJ:∀ j ∈ J,j<G.tok.length)(hl:d.lt1 I.length J.length=true)(h:DRel G w (d.ren1 I J) u):DRel (G.sub I J) w d u:=by
 cases d with
 | p x=>cases h with | p _ _ h=>exact .p _ _ h
 | undef=>cases h; exact .undef
 | ptr nm off =>
  have hn:nm<I.length:=of_decide_eq_true hl;have hg:=Qbt hn 0;cases h with
  | ptr _ _ b hb=>exact .ptr _ _ b (by rw[Qn7 hg (hI _ (List.mem_of_getElem? hg))]; exact hb)
 | own t e s es =>
  have hn:t<J.length:=of_decide_eq_true hl;have hg:=Qbt hn 0;cases h with
  | own _ _ _ _ _ T h1 h2 h3 h0 h4 h5 =>
   have e1:=Qpz (I:=I) hg (hJ _ (List.mem_of_getElem? hg));refine .own _ _ _ _ _ T h1 h2 (by rw[e1]; exact h3) h0 h4 λhe=>?_
   obtain⟨a,cap,rfl,h6⟩:=h5 he;refine⟨a,cap,rfl,h6.imp id (Or.imp_left ?_)⟩;rintro ⟨b,us,T2,ha,g1,g⟩;exact⟨b,us,T2,ha,by rw[e1]; exact g1,g⟩
 | yld P t xs =>
  have hn:t<J.length:=of_decide_eq_true hl;have hg:=Qbt hn 0;have e1:=Qpz (I:=I) hg (hJ _ (List.mem_of_getElem? hg));cases h with
  | yld _ T p h1 h2=>exact .yld t T p (by rw[e1]; exact h1) h2
 | sp P u b nm off =>
  have hn:nm<I.length:=of_decide_eq_true hl;have hg:=Qbt hn 0;cases h with
  | sp _ _ _ _ _ i e n _ h1 h2 h3 h4 h5 h6=>exact .sp _ _ _ _ _ i e n _ (by rw[Qn7 hg (hI _ (List.mem_of_getElem? hg))]; exact h1) h2 h3 h4 h5 h6
 | x t v X =>
  have hn:t<J.length:=of_decide_eq_true hl;have hg:=Qbt hn 0;have e1:=Qpz (I:=I) hg (hJ _ (List.mem_of_getElem? hg));cases h with
  | x _ _ _ _ T h1 h0 h2 h3 h4=>exact .x t v X _ T (by rw[e1]; exact h1) h0 h2 h3 h4
 | mh nm =>
  have hn:nm<I.length:=of_decide_eq_true hl;have hg:=Qbt hn 0;cases h with
  | mh _ b hb=>exact .mh _ b (by rw[Qn7 hg (hI _ (List.mem_of_getElem? hg))]; exact hb)
 | fn f a b=>cases hl
 | agg a=>cases hl
 | tup a=>cases hl
 | sf a=>cases hl
 | ef d=>cases hl
theorem Qaaq{G:Gh}{w:World}{d:D}{u:Value}(hI:∀ i ∈ I,i<G.name.length)(hJ:∀ j ∈ J,j<G.tok.length)(hl:d.ltF I.length J.length=true)(h:DRel G w (d.renF I J) u):DRel (G.sub I J) w d u:=by
 have key:∀ {l:List D},l.all (D.lt1 I.length J.length)=true->∀ {us:Array Value},(∀ (j:Nat) c u,(l.map (D.ren1 I J))[j]? = some c->us[j]? = some u->DRel G w c u)->∀ (j:Nat) c u,l[j]? = some c->us[j]? = some u->DRel (G.sub I J) w c u:=λ{l} hl us hr j c u hc hu=>by
  rw[List.all_eq_true] at hl;exact Qdu hI hJ (hl c (List.mem_of_getElem? hc)) (hr j _ u (by rw[List.getElem?_map,hc]; rfl) hu)
 cases d with
 | p x=>exact Qdu hI hJ hl h
 | undef=>exact Qdu hI hJ hl h
 | ptr nm off=>exact Qdu hI hJ hl h
 | own t e s es=>exact Qdu hI hJ hl h
 | yld P t xs=>exact Qdu hI hJ hl h
 | sp P u b nm off=>exact Qdu hI hJ hl h
 | x t v X=>exact Qdu hI hJ hl h
 | mh nm=>exact Qdu hI hJ hl h
 | fn f a b =>
  simp only[D.ltF,Bool.and_eq_true] at hl;cases h with
  | fn _ _ _ us vs h1 h2 h3 h4=>exact .fn _ _ _ us vs (by simpa using h1) (by simpa using h2) (key hl.1 h3) (key hl.2 h4)
 | agg a=>cases hl
 | tup a=>cases hl
 | sf a=>cases hl
 | ef d=>cases hl
theorem Q20{G:Gh}{w:World}{d:D}{u:Value}(hI:∀ i ∈ I,i<G.name.length)(hJ:∀ j ∈ J,j<G.tok.length)(hl:d.lt I.length J.length=true)(h:DRel G w (d.ren I J) u):DRel (G.sub I J) w d u:=by
 have key:∀ {l:List D},l.all (D.lt1 I.length J.length)=true->∀ {us:Array Value},(∀ (j:Nat) c u,(l.map (D.ren1 I J))[j]? = some c->us[j]? = some u->DRel G w c u)->∀ (j:Nat) c u,l[j]? = some c->us[j]? = some u->DRel (G.sub I J) w c u:=λ{l} hl us hr j c u hc hu=>by
  rw[List.all_eq_true] at hl;exact Qdu hI hJ (hl c (List.mem_of_getElem? hc)) (hr j _ u (by rw[List.getElem?_map,hc]; rfl) hu)
 cases d with
 | p x=>exact Qdu hI hJ hl h
 | undef=>exact Qdu hI hJ hl h
 | ptr nm off=>exact Qdu hI hJ hl h
 | own t e s es=>exact Qdu hI hJ hl h
 | yld P t xs=>exact Qdu hI hJ hl h
 | sp P u b nm off=>exact Qdu hI hJ hl h
 | x t v X=>exact Qdu hI hJ hl h
 | mh nm=>exact Qdu hI hJ hl h
 | fn f a b =>
  simp only[D.lt,Bool.and_eq_true] at hl;cases h with
  | fn _ _ _ us vs h1 h2 h3 h4=>exact .fn _ _ _ us vs (by simpa using h1) (by simpa using h2) (key hl.1 h3) (key hl.2 h4)
 | agg a=>cases h with | agg _ us h1 h2 h3=>exact .agg _ us (by simpa using h1) (λj c u hc hu=>h2 j _ u (by rw[List.getElem?_map,hc]; rfl) hu) (key hl h3)
 | tup a=>cases h with | tup _ us h1 h3=>exact .tup _ us (by simpa using h1) (key hl h3)
 | sf a =>
  simp only[D.lt,List.all_eq_true] at hl;have hm:∀ (i:Nat) d,a[i]? = some d->(a.map (D.renF I J))[i]? = some (D.renF I J d):=λi d hd=>by rw[List.getElem?_map,hd]; rfl
  generalize hv:D.ren I J (.sf a)=y at h;cases h with
  | sf ds b us h1 h2 =>
   cases hv;rw[List.length_map];exact .sf a b us (λi d hd=>h1 i _ (hm i d hd)) (λi d hd=>Qaaq hI hJ (hl d (List.mem_of_getElem? hd)) (h2 i _ (hm i d hd)))
  | _=>cases hv
 | ef d=>cases h with | ef _ b off u h1 h2 h3=>exact .ef _ b off u h1 h2 (Qaaq hI hJ hl h3)
def Qgw(J:List Nat)(n m:Nat):List Nat:=J++(List.range (m-J.length)).map (· + n)
theorem Qdv{Gs:Gh}{nm:List Nat}{tk:List Tok}{w:World}{d:D}{u:Value}(hN:∀ (k i:Nat),I[k]? = some i->Gs.name[k]? = nm[i]?)(hT:∀ (k j:Nat),J[k]? = some j->Gs.tok[k]? = tk[j]?)(hl:d.lt1 I.length J.length=true)(h:DRel Gs w d u):DRel ⟨Gs.com,nm,tk⟩ w (d.ren1 I J) u:=by
 cases d with
 | p x=>cases h with | p _ _ h=>exact .p _ _ h
 | undef=>cases h; exact .undef
 | ptr n0 off =>
  have hg:=Qbt (show n0<I.length from of_decide_eq_true hl) 0;cases h with
  | ptr _ _ b hb=>exact .ptr _ _ b (by rw[hN _ _ hg] at hb; exact hb)
 | own t e s es =>
  have hg:=Qbt (show t<J.length from of_decide_eq_true hl) 0;cases h with
  | own _ _ _ _ _ T h1 h2 h3 h0 h4 h5 =>
   refine .own _ _ _ _ _ T h1 h2 (by rw[<-hT _ _ hg]; exact h3) h0 h4 λhe=>?_
   obtain⟨a,cap,rfl,h6⟩:=h5 he;refine⟨a,cap,rfl,h6.imp id (Or.imp_left ?_)⟩;rintro ⟨b,us,T2,ha,g1,g⟩;exact⟨b,us,T2,ha,by rw[<-hT _ _ hg]; exact g1,g⟩
 | yld P t xs =>
  have hg:=Qbt (show t<J.length from of_decide_eq_true hl) 0;cases h with
  | yld _ T p h1 h2=>exact .yld _ T p (by rw[<-hT _ _ hg]; exact h1) h2
 | sp P u b n0 off =>
  have hg:=Qbt (show n0<I.length from of_decide_eq_true hl) 0;cases h with
  | sp _ _ _ _ _ i e n _ h1 h2 h3 h4 h5 h6=>exact .sp _ _ _ _ _ i e n _ (by rw[hN _ _ hg] at h1; exact h1) h2 h3 h4 h5 h6
 | x t v X =>
  have hg:=Qbt (show t<J.length from of_decide_eq_true hl) 0;cases h with
  | x _ _ _ _ T h1 h0 h2 h3 h4=>exact .x _ v X _ T (by rw[<-hT _ _ hg]; exact h1) h0 h2 h3 h4
 | mh n0 =>
  have hg:=Qbt (show n0<I.length from of_decide_eq_true hl) 0;cases h with
  | mh _ b hb=>exact .mh _ b (by rw[hN _ _ hg] at hb; exact hb)
 | fn f a b=>cases hl
 | agg a=>cases hl
 | tup a=>cases hl
 | sf a=>cases hl
 | ef d=>cases hl
theorem Qaar{Gs:Gh}{nm:List Nat}{tk:List Tok}{w:World}{d:D}{u:Value}(hN:∀ (k i:Nat),I[k]? = some i->Gs.name[k]? = nm[i]?)(hT:∀ (k j:Nat),J[k]? = some j->Gs.tok[k]? = tk[j]?)(hl:d.ltF I.length J.length=true)(h:DRel Gs w d u):DRel ⟨Gs.com,nm,tk⟩ w (d.renF I J) u:=by
 have key:∀ {l:List D},l.all (D.lt1 I.length J.length)=true->∀ {us:Array Value},(∀ (j:Nat) c u,l[j]? = some c->us[j]? = some u->DRel Gs w c u)->∀ (j:Nat) c u,(l.map (D.ren1 I J))[j]? = some c->us[j]? = some u->DRel ⟨Gs.com,nm,tk⟩ w c u:=λ{l} hl us hr j c u hc hu=>by
  rw[List.all_eq_true] at hl;rw[List.getElem?_map] at hc;obtain⟨c', hc', rfl⟩:=Option.map_eq_some_iff.1 hc;exact Qdv hN hT (hl c' (List.mem_of_getElem? hc')) (hr j c' u hc' hu)
 cases d with
 | p x=>exact Qdv (d :=.p x) hN hT hl h
 | undef=>exact Qdv (d :=.undef) hN hT hl h
 | ptr n off=>exact Qdv (d :=.ptr n off) hN hT hl h
 | own t e s es=>exact Qdv (d :=.own t e s es) hN hT hl h
 | yld P t xs=>exact Qdv (d :=.yld P t xs) hN hT hl h
 | sp P u b n off=>exact Qdv (d :=.sp P u b n off) hN hT hl h
 | x t v X=>exact Qdv (d :=.x t v X) hN hT hl h
 | mh n=>exact Qdv (d :=.mh n) hN hT hl h
 | fn f a b =>
  simp only[D.ltF,Bool.and_eq_true] at hl;cases h with
  | fn _ _ _ us vs h1 h2 h3 h4=>exact .fn _ _ _ us vs (by simpa using h1) (by simpa using h2) (key hl.1 h3) (key hl.2 h4)
 | agg a=>cases hl
 | tup a=>cases hl
 | sf a=>cases hl
 | ef d=>cases hl
theorem Qad3{Gs:Gh}{nm:List Nat}{tk:List Tok}{w:World}{d:D}{u:Value}(hN:∀ (k i:Nat),I[k]? = some i->Gs.name[k]? = nm[i]?)(hT:∀ (k j:Nat),J[k]? = some j->Gs.tok[k]? = tk[j]?)(hl:d.lt I.length J.length=true)(h:DRel Gs w d u):DRel ⟨Gs.com,nm,tk⟩ w (d.ren I J) u:=by
 have key:∀ {l:List D},l.all (D.lt1 I.length J.length)=true->∀ {us:Array Value},(∀ (j:Nat) c u,l[j]? = some c->us[j]? = some u->DRel Gs w c u)->∀ (j:Nat) c u,(l.map (D.ren1 I J))[j]? = some c->us[j]? = some u->DRel ⟨Gs.com,nm,tk⟩ w c u:=λ{l} hl us hr j c u hc hu=>by
  rw[List.all_eq_true] at hl;rw[List.getElem?_map] at hc;obtain⟨c', hc', rfl⟩:=Option.map_eq_some_iff.1 hc;exact Qdv hN hT (hl c' (List.mem_of_getElem? hc')) (hr j c' u hc' hu)
 cases d with
 | p x=>exact Qdv (d :=.p x) hN hT hl h
 | undef=>exact Qdv (d :=.undef) hN hT hl h
 | ptr n off=>exact Qdv (d :=.ptr n off) hN hT hl h
 | own t e s es=>exact Qdv (d :=.own t e s es) hN hT hl h
 | yld P t xs=>exact Qdv (d :=.yld P t xs) hN hT hl h
 | sp P u b n off=>exact Qdv (d :=.sp P u b n off) hN hT hl h
 | x t v X=>exact Qdv (d :=.x t v X) hN hT hl h
 | mh n=>exact Qdv (d :=.mh n) hN hT hl h
 | fn f a b =>
  simp only[D.lt,Bool.and_eq_true] at hl;cases h with
  | fn _ _ _ us vs h1 h2 h3 h4=>exact .fn _ _ _ us vs (by simpa using h1) (by simpa using h2) (key hl.1 h3) (key hl.2 h4)
 | agg a =>
  cases h with
  | agg _ us h1 h2 h3 =>
   refine .agg _ us (by simpa using h1) (λj c u hc hu=>?_) (key hl h3);rw[List.getElem?_map] at hc;obtain⟨c', hc', rfl⟩:=Option.map_eq_some_iff.1 hc;exact h2 j c' u hc' hu
 | tup a=>cases h with | tup _ us h1 h3=>exact .tup _ us (by simpa using h1) (key hl h3)
 | sf a =>
  simp only[D.lt,List.all_eq_true] at hl;cases h with
  | sf _ b us h1 h2 =>
   rw[show a.length=(a.map (D.renF I J)).length by simp];refine .sf _ b us (λi d hd=>?_) (λi d hd=>?_)
   all_goals
    rw[List.getElem?_map] at hd;obtain⟨c', hc', rfl⟩:=Option.map_eq_some_iff.1 hd
   .exact h1 i c' hc'
   .exact Qaar hN hT (hl c' (List.mem_of_getElem? hc')) (h2 i c' hc')
 | ef d=>cases h with | ef _ b off u h1 h2 h3=>exact .ef _ b off u h1 h2 (Qaar hN hT hl h3)
theorem Qaks{d:D}{x:V}(h:d.ren1 I J = .p x):d = .p x:=by cases d<;>first | exact h | cases h
theorem Q8q{α β : Type}{f : α -> β}{l:List α}{y : β}(h:l.map f=[y]):∃ x,l=[x]/\f x=y:=by
 cases l with
 | nil=>cases h
 | cons x r =>
  rw[List.map_cons] at h;injection h with h1 h2
  cases r with
  | nil=>exact⟨x,rfl,h1⟩
  | cons z q=>cases h2
theorem Qair{cs:List D}{x:V}(h:cs.map (D.ren I J)=[.tup [.p x]]):cs=[.tup [.p x]]:=by
 obtain⟨c,rfl,h1⟩:=Q8q h;cases c with
 | tup a =>
  have h2:D.tup (a.map (D.ren1 I J)) = .tup [.p x]:=h1;injection h2 with h3
  obtain⟨d,rfl,h4⟩:=Q8q h3;rw[Qaks h4]
 | _=>cases h1
theorem Qfq{α : Type}{l:List α}{I:List Nat}{d x : α}(hI:∀ i ∈ I,i<l.length)(h:x ∈ I.map (l.getD · d)):x ∈ l:=by
 obtain⟨i,hi,rfl⟩:=List.mem_map.1 h;exact List.mem_of_getElem? (Qbt (hI i hi) d)
theorem Inv.sub{G:Gh}{H:List (List D)}{L:List Nat}{hs:List (List D)}{lv:List Nat}{w:World}(h:Inv G ⟨H,L⟩ w)(nI:I.Nodup)(nJ:J.Nodup)(hI:∀ i ∈ I,i<H.length)(hJ:∀ j ∈ J,j<L.length)
  (eH:I.map (H.getD · [])=hs.map λcs=>cs.map (D.ren I J)) (eL:J.map (L.getD · 0)=lv) (hlt:hs.all (λcs=>cs.all (D.lt I.length J.length))=true):Inv (G.sub I J) ⟨hs,lv⟩ w:=by
 have hN:G.name.length=H.length:=h.names;have hT:G.tok.length=L.length:=by have:=congrArg List.length h.live; simpa using this
 have hI' : ∀ i ∈ I,i<G.name.length:=λi hi=>by rw[hN]; exact hI i hi
 have hJ' : ∀ j ∈ J,j<G.tok.length:=λj hj=>by rw[hT]; exact hJ j hj
 have hlen:hs.length=I.length:=by have:=congrArg List.length eH; simpa using this.symm
 refine⟨λb o hc=>?_,?_,?_,λk b cs hb hcs=>?_,?_,λt T b ht hb=>?_,λT hT' => h.pro T (Qfq hJ' hT'),h.glob⟩
 .obtain⟨h1,h2,h3⟩:=h.com b o hc;exact⟨h1,λhm=>h2 (Qfq hI' hm),λT hT' => h3 T (Qfq hJ' hT')⟩
 .show(I.map _).length=hs.length;rw[hlen]; simp
 .show(I.map (G.name.getD · 0)).Nodup;refine Qags λa b x ha hb=>?_
  rw[List.getElem?_map] at ha hb;obtain⟨i,hi,rfl⟩:=Option.map_eq_some_iff.1 ha;obtain⟨j,hj,he⟩:=Option.map_eq_some_iff.1 hb;have g1:=Qbt (hI' _ (List.mem_of_getElem? hi)) 0;have g2:=Qbt (hI' _ (List.mem_of_getElem? hj)) 0;rw[he] at g2;have hii:=Qpy h.nodup g1 g2;subst hii;exact Qpy nI hi hj
 .have hk:k<I.length:=by rw[<-hlen]; exact(List.getElem?_eq_some_iff.1 hcs).1
  have hg:=Qbt hk 0;have hil:=hI _ (List.mem_of_getElem? hg);rw[Qn7 hg (by rw[hN]; exact hil)] at hb;have e:=congrArg (·[k]?) eH;simp only[List.getElem?_map,hg,hcs,Option.map_some,Option.some.injEq] at e;have hH:=Qbt hil [];rw[e] at hH;cases h.var _ b _ hb hH with
  | map fl ms es clock h1 h2 h3=>exact .map fl ms es clock (Qair h1) h2 h3
  | cells us ty h1 h2 h3 =>
  refine .cells us ty h1 (by rw[h2]; simp) λj c u hc hu=>?_
  obtain⟨g1,g2⟩:=h3 j (c.ren I J) u (by rw[List.getElem?_map,hc]; rfl) hu;rw[List.all_eq_true] at hlt;have hl:=hlt cs (List.mem_of_getElem? hcs);rw[List.all_eq_true] at hl;exact⟨g1,Q20 hI' hJ' (hl c (List.mem_of_getElem? hc)) g2⟩
 .show(J.map (G.tok.getD · tok0)).map (·.len)=lv;rw[<-eL,List.map_map];refine List.map_congr_left λj hj=>?_
  have g1:=Qbt (hJ' j hj) tok0;have e:=congrArg (·[j]?) h.live;simp only[List.getElem?_map,g1,Option.map_some] at e;show(G.tok.getD j tok0).len=L.getD j 0;exact(Qam1 e.symm).symm
 .have htl:t<J.length:=by have:=(List.getElem?_eq_some_iff.1 ht).1; simpa [Gh.sub] using this
  have hg:=Qbt htl 0;rw[Qpz hg (hJ' _ (List.mem_of_getElem? hg))] at ht;obtain⟨h1,h2,h3⟩:=h.tok _ T b ht hb;refine⟨h1,λhm=>h2 (Qfq hI' hm),λt' T' ht' hb' => ?_⟩;have htl' : t' < J.length:=by have:=(List.getElem?_eq_some_iff.1 ht').1; simpa [Gh.sub] using this
  have hg' := Qbt htl' 0;rw[Qpz hg' (hJ' _ (List.mem_of_getElem? hg'))] at ht';have e:=h3 _ T' ht' hb';rw[e] at hg';exact Qpy nJ hg' hg
def Gh.backN(G Gs:Gh)(I J:List Nat):Gh:=⟨Gs.com,G.name++Gs.name.drop I.length,updL G.tok J Gs.tok++Gs.tok.drop J.length⟩
theorem CallX.frameN{E:Value->Ending}{P:Program}{f:FuncId}{args:List D}{hs hs' : List (List D)}{lv lv' : List Nat}{r:D}(k:CallX E P f args ⟨hs,lv⟩ r ⟨hs', lv'⟩)(I J:List Nat){H:List (List D)}{L:List Nat}(nI:I.Nodup)(nJ:J.Nodup)(hI:∀ i ∈ I,i<H.length)(hJ:∀ j ∈ J,j<L.length)
  (eH:I.map (H.getD · [])=hs.map λcs=>cs.map (D.ren I J)) (eL:J.map (L.getD · 0)=lv) (hl' : I.length<=hs'.length) (hlv' : J.length<=lv'.length)
  (ha:args.all (D.lt I.length J.length)=true) (hlt:hs.all (λcs=>cs.all (D.lt I.length J.length))=true) (hr:r.lt hs'.length lv'.length=true) (hlt' : hs'.all (λcs=>cs.all (D.lt hs'.length lv'.length))=true) :
  CallX E P f (args.map (D.ren I J)) ⟨H,L⟩ (r.ren (Qgw I H.length hs'.length) (Qgw J L.length lv'.length)) ⟨updL H I (hs'.map λcs=>cs.map (D.ren (Qgw I H.length hs'.length) (Qgw J L.length lv'.length)))++(hs'.drop I.length).map (λcs=>cs.map (D.ren (Qgw I H.length hs'.length) (Qgw J L.length lv'.length))),updL L J lv' ++ lv'.drop J.length⟩:=by
 generalize hJJ:Qgw J L.length lv'.length=JJ;generalize hII:Qgw I H.length hs'.length=II;have lII:II.length=hs'.length:=by rw[<-hII]; unfold Qgw; simp; omega
 have lJJ:JJ.length=lv'.length:=by rw[<-hJJ]; unfold Qgw; simp; omega
 refine⟨k.fn,λG w us hInv hs1 hrel=>?_⟩;have hN:G.name.length=H.length:=hInv.names;have hT:G.tok.length=L.length:=by have:=congrArg List.length hInv.live; simpa using this
 have hI' : ∀ i ∈ I,i<G.name.length:=λi hi=>by rw[hN]; exact hI i hi
 have hJ' : ∀ j ∈ J,j<G.tok.length:=λj hj=>by rw[hT]; exact hJ j hj
 have hsub:=hInv.sub nI nJ hI hJ eH eL hlt;rw[List.all_eq_true] at ha;refine(k.out (G.sub I J) w us hsub (by simpa using hs1) λj d u hd hu=>Q20 hI' hJ' (ha d (List.mem_of_getElem? hd)) (hrel j _ u (by rw[List.getElem?_map,hd]; rfl) hu)).mono λe w' ⟨u,Gs,he,hS,hV,hD⟩=>?_
 have lN:Gs.name.length=hs'.length:=hV.names;have lT:Gs.tok.length=lv'.length:=by have:=congrArg List.length hV.live; simpa using this
 have eN0:∀ (k i:Nat),I[k]? = some i->Gs.name[k]? = G.name[i]? := λk i hk=>by
  have hil:=hI' i (List.mem_of_getElem? hk);have:=Qn7 (J:=J) (G:=G) hk hil;rw[Qbt hil 0] at this ⊢;exact hS.name k _ this
 have eN:∀ (k i:Nat),II[k]? = some i->Gs.name[k]? = (G.backN Gs I J).name[i]? := λk i hk=>by
  show _=(G.name++Gs.name.drop I.length)[i]?;rw[<-hII] at hk;unfold Qgw at hk;by_cases hkI:k<I.length
  .rw[List.getElem?_append_left hkI] at hk;have:=hI' i (List.mem_of_getElem? hk);rw[List.getElem?_append_left (by omega)];exact eN0 k i hk
  .rw[List.getElem?_append_right (by omega),List.getElem?_map] at hk;obtain⟨z,hz,rfl⟩:=Option.map_eq_some_iff.1 hk;have hz' : z=k-I.length:=by have:=(List.getElem?_eq_some_iff.1 hz).2; simpa using this.symm
   rw[List.getElem?_append_right (by omega),List.getElem?_drop];congr 1; omega
 have lS:(G.sub I J).name.length=I.length:=by show(I.map _).length=_; simp
 have newName:∀ b,b ∈ Gs.name.drop I.length->b ∈ Gs.name/\(w.heap.size<=b\/∃ T ∈ (G.sub I J).tok,T.has b):=λb hb=>by
  have hm:=List.mem_of_mem_drop hb;refine⟨hm,?_⟩;obtain⟨m,hm2⟩:=List.getElem?_of_mem hb;rw[List.getElem?_drop] at hm2;rcases hS.ext.mine b (.inl hm) with h | h | h
  .exact .inl h
  .obtain⟨k,hk⟩:=List.getElem?_of_mem h;have hkl:k<I.length:=by rw[<-lS]; exact(List.getElem?_eq_some_iff.1 hk).1
   have:=Qpy hV.nodup (hS.name k b hk) hm2;omega
  .exact .inr h
 have newOut:∀ b,b ∈ Gs.name.drop I.length->b ∉ G.name:=λb hb hx=>by
  rcases (newName b hb).2 with h | ⟨T2,h,hb2⟩
  .have:=Qd5 hInv b hx; omega
  .obtain⟨j,hj,rfl⟩:=List.mem_map.1 h;exact(hInv.tok j _ b (Qbt (hJ' j hj) tok0) hb2).2.1 hx
 have lU:(updL G.tok J Gs.tok).length=L.length:=by rw[Qn6]; exact hT
 have bT:∀ (k j:Nat),JJ[k]? = some j->Gs.tok[k]? = (G.backN Gs I J).tok[j]? := λk j hk=>by
  have hkl:k<Gs.tok.length:=by rw[lT,<-lJJ]; exact(List.getElem?_eq_some_iff.1 hk).1
  rw[<-hJJ] at hk;unfold Qgw at hk;show _=(updL G.tok J Gs.tok++Gs.tok.drop J.length)[j]?;by_cases hkJ:k<J.length
  .rw[List.getElem?_append_left hkJ] at hk;have hj:=hJ j (List.mem_of_getElem? hk);rw[List.getElem?_append_left (by omega),Q8p J Gs.tok G.tok k j Gs.tok[k] nJ hJ' hk (List.getElem?_eq_getElem hkl),List.getElem?_eq_getElem hkl]
  .rw[List.getElem?_append_right (by omega),List.getElem?_map] at hk;obtain⟨z,hz,rfl⟩:=Option.map_eq_some_iff.1 hk;have hz' : z=k-J.length:=by have:=(List.getElem?_eq_some_iff.1 hz).2; simpa using this.symm
   rw[List.getElem?_append_right (by omega),List.getElem?_drop];congr 1; omega
 have oT:∀ j,j<L.length->j ∉ J->(G.backN Gs I J).tok[j]? = G.tok[j]? := λj hj hm=>by
  show(updL G.tok J Gs.tok++Gs.tok.drop J.length)[j]? = _;rw[List.getElem?_append_left (by omega)];exact Qwy J Gs.tok G.tok j hm
 have tokCase:∀ (t:Nat) T,(G.backN Gs I J).tok[t]? = some T->(∃ k,JJ[k]? = some t/\Gs.tok[k]? = some T)\/(t ∉ J/\G.tok[t]? = some T):=λt T ht=>by
  by_cases hm:t ∈ J
  .obtain⟨k,hk⟩:=List.getElem?_of_mem hm;have hk2:JJ[k]? = some t:=by rw[<-hJJ]; unfold Qgw; rw[List.getElem?_append_left (List.getElem?_eq_some_iff.1 hk).1]; exact hk
   exact .inl ⟨k,hk2,by rw[bT k t hk2]; exact ht⟩
  .by_cases hlt:t<L.length
   .exact .inr ⟨hm,by rw[<-oT t hlt hm]; exact ht⟩
   .have htl:t<(G.backN Gs I J).tok.length:=(List.getElem?_eq_some_iff.1 ht).1;have htl2:t<(updL G.tok J Gs.tok++Gs.tok.drop J.length).length:=htl;rw[List.length_append,lU,List.length_drop,lT] at htl2;have hk2:JJ[J.length+(t-L.length)]? = some t:=by
     rw[<-hJJ]; unfold Qgw;rw[List.getElem?_append_right (by omega),List.getElem?_map,List.getElem?_range (by omega)];simp; omega
    exact .inl ⟨_,hk2,by rw[bT _ t hk2]; exact ht⟩
 have subBlk:∀ T ∈ (G.sub I J).tok,T ∈ G.tok:=λT hT' => Qfq hJ' hT'
 have blkFrom:∀ T ∈ Gs.tok,∀ b,T.has b->w.heap.size<=b\/b ∈ (G.sub I J).name\/∃ T ∈ (G.sub I J).tok,T.has b:=λT hT' b hb=>hS.ext.mine b (.inr ⟨T,hT', hb⟩)
 have stp:Stp G w (G.backN Gs I J) w' := by
  refine⟨⟨hS.ext.os,hS.ext.tape,hS.ext.output,hS.ext.size,hS.ext.com,λb hb hn ht=>hS.ext.old b hb (λhm=>hn (Qfq hI' hm)) (λT hT' => ht T (subBlk T hT')),λb o hc=>?_,λb hb=>?_,hS.ext.mono,hS.ext.shp⟩,λnm b hb=>by show(G.name++Gs.name.drop I.length)[nm]? = _; rw[List.getElem?_append_left (List.getElem?_eq_some_iff.1 hb).1]; exact hb,λt T ht=>?_⟩
  .rcases hS.ext.new b o hc with h | h | h | ⟨T,h,hb⟩
   .exact .inl h
   .exact .inr (.inl h)
   .exact .inr (.inr (.inl (Qfq hI' h)))
   .exact .inr (.inr (.inr ⟨T,subBlk T h,hb⟩))
  .rcases hb with hb | ⟨T,hT', hb⟩
   .rcases List.mem_append.1 (show b ∈ G.name++Gs.name.drop I.length from hb) with hb | hb
    .exact .inr (.inl hb)
    .rcases (newName b hb).2 with h | ⟨T2,h,hb2⟩
     .exact .inl h
     .exact .inr (.inr ⟨T2,subBlk T2 h,hb2⟩)
   .obtain⟨t,ht⟩:=List.getElem?_of_mem hT';rcases tokCase t T ht with ⟨k,-,hk⟩ | ⟨-,hk⟩
    .rcases blkFrom T (List.mem_of_getElem? hk) b hb with h | h | ⟨T2,h,hb2⟩
     .exact .inl h
     .exact .inr (.inl (Qfq hI' h))
     .exact .inr (.inr ⟨T2,subBlk T2 h,hb2⟩)
    .exact .inr (.inr ⟨T,List.mem_of_getElem? hk,hb⟩)
  .by_cases hm:t ∈ J
   .obtain⟨k,hk⟩:=List.getElem?_of_mem hm;obtain⟨T', h1,h2⟩:=hS.tok k T (by rw[Qpz hk (hJ' t hm)]; exact ht);have hk2:JJ[k]? = some t:=by rw[<-hJJ]; unfold Qgw; rw[List.getElem?_append_left (List.getElem?_eq_some_iff.1 hk).1]; exact hk
    exact⟨T', by rw[<-bT k t hk2]; exact h1,h2⟩
   .refine⟨T,by rw[oT t (by rw[<-hT]; exact(List.getElem?_eq_some_iff.1 ht).1) hm]; exact ht,.refl T,λ_=>⟨rfl,λb hb=>?_⟩⟩;obtain⟨g1,g2,g3⟩:=hInv.tok t T b ht hb;refine hS.ext.old b g1 (λhx=>g2 (Qfq hI' hx)) λT' hT' hb' => ?_
    obtain⟨j,hj,rfl⟩:=List.mem_map.1 hT';have:=g3 j _ (Qbt (hJ' j hj) tok0) hb';subst this;exact hm hj
 have core:∀ (k b:Nat),Gs.name[k]? = some b->∀ cs0,hs'[k]? = some cs0->VarAt (G.backN Gs I J) w' b (cs0.map (D.ren II JJ)):=λk b hb cs0 hcs=>by
  cases hV.var k b cs0 hb hcs with
  | map fl ms es clock h1 h2 h3=>exact .map fl ms es clock (by rw[h1]; rfl) h2 h3
  | cells us' ty h1 h2 h3 =>
   refine .cells us' ty h1 (by rw[h2]; simp) λj c u hc hu=>?_
   rw[List.getElem?_map] at hc;obtain⟨c', hc', rfl⟩:=Option.map_eq_some_iff.1 hc;obtain⟨q1,q2⟩:=h3 j c' u hc' hu;rw[List.all_eq_true] at hlt';have hl2:=hlt' cs0 (List.mem_of_getElem? hcs);rw[List.all_eq_true] at hl2;exact⟨q1,Qad3 (I:=II) (J:=JJ) eN bT (by rw[lII,lJJ]; exact hl2 c' (List.mem_of_getElem? hc')) q2⟩
 have inv:Inv (G.backN Gs I J) ⟨updL H I (hs'.map λcs=>cs.map (D.ren II JJ))++(hs'.drop I.length).map (λcs=>cs.map (D.ren II JJ)),updL L J lv' ++ lv'.drop J.length⟩ w' := by
  refine⟨λb o hc=>?_,?_,?_,λi b cs hb hcs=>?_,?_,λt T b ht hb=>?_,λT hT' => ?_,hV.glob⟩
  rotate_right
  .obtain⟨t,ht⟩:=List.getElem?_of_mem hT';rcases tokCase t T ht with ⟨k,-,hk⟩ | ⟨hm,hk⟩
   .exact hV.pro T (List.mem_of_getElem? hk)
   .have hm' := List.mem_of_getElem? hk;refine⟨Tok.ok_ext (hInv.pro T hm') stp.ext λb hb=>?_,λb o hr=>hS.ext.mono b o ((hInv.pro T hm').2 b o hr)⟩;obtain⟨g1,g2,g3⟩:=hInv.tok t T b hk hb;refine hS.ext.old b g1 (λhx=>g2 (Qfq hI' hx)) λT' hT' hb' => ?_
    obtain⟨j,hj,rfl⟩:=List.mem_map.1 hT';have:=g3 j _ (Qbt (hJ' j hj) tok0) hb';subst this;exact hm hj
  .obtain⟨g1,g2,g3⟩:=hV.com b o hc;have hne:∀ b', b' ∈ (G.sub I J).name->b' ∈ Gs.name:=λb' hb' => by
    obtain⟨k,hk⟩:=List.getElem?_of_mem hb';exact List.mem_of_getElem? (hS.name k b' hk)
   refine⟨g1,λhm=>?_,λT hT' => ?_⟩
   .rcases List.mem_append.1 (show b ∈ G.name++Gs.name.drop I.length from hm) with hm | hm
    rotate_left
    .exact g2 (newName b hm).1
    rcases hS.ext.new b o hc with h | h | h | ⟨T,h,hb⟩
    .exact(hInv.com b o h).2.1 hm
    .have:=Qd5 hInv b hm; omega
    .exact g2 (hne b h)
    .obtain⟨j,hj,rfl⟩:=List.mem_map.1 h;exact(hInv.tok j _ b (Qbt (hJ' j hj) tok0) hb).2.1 hm
   .obtain⟨t,ht⟩:=List.getElem?_of_mem hT';rcases tokCase t T ht with ⟨k,-,hk⟩ | ⟨hm,hk⟩
    .exact g3 T (List.mem_of_getElem? hk)
    .have key:T.has b->T.may b o:=λhb=>by
      obtain⟨q1,q2,q3⟩:=hInv.tok t T b hk hb;rcases hS.ext.new b o hc with h | h | h | ⟨T2,h,hb2⟩
      .exact(hInv.com b o h).2.2 T (List.mem_of_getElem? hk)
      .omega
      .exact absurd (Qfq hI' h) q2
      .obtain⟨j,hj,rfl⟩:=List.mem_map.1 h;have:=q3 j _ (Qbt (hJ' j hj) tok0) hb2;subst this;exact absurd hj hm
     exact⟨λhb=>(key (.inl hb)).1 hb,λhb=>(key (.inr hb)).2 hb⟩
  .show(G.name++Gs.name.drop I.length).length=(updL H I _++_).length;rw[List.length_append,List.length_append,Qn6,List.length_drop,List.length_map,List.length_drop,lN,hN]
  .show(G.name++Gs.name.drop I.length).Nodup;exact List.nodup_append.2 ⟨hInv.nodup,hV.nodup.sublist (List.drop_sublist _ _),λa ha b hb he=>newOut b hb (he ▸ ha)⟩
  .have hb1:(G.name++Gs.name.drop I.length)[i]? = some b:=hb;have hcs1:(updL H I (hs'.map λcs=>cs.map (D.ren II JJ))++(hs'.drop I.length).map (λcs=>cs.map (D.ren II JJ)))[i]? = some cs:=hcs;by_cases hiH:i<H.length
   .rw[List.getElem?_append_left (by omega)] at hb1;rw[List.getElem?_append_left (by rw[Qn6]; exact hiH)] at hcs1;by_cases hm:i ∈ I
    .obtain⟨k,hk⟩:=List.getElem?_of_mem hm;have hkl:k<hs'.length:=by have:=(List.getElem?_eq_some_iff.1 hk).1; omega
     have hcs' : (updL H I (hs'.map λcs=>cs.map (D.ren II JJ)))[i]? = some (hs'[k].map (D.ren II JJ)):=Q8p I _ H k i _ nI hI hk (by rw[List.getElem?_map,List.getElem?_eq_getElem hkl]; rfl);rw[hcs'] at hcs1;cases hcs1;exact core k b (by rw[eN0 k i hk]; exact hb1) _ (List.getElem?_eq_getElem hkl)
    .rw[Qwy I _ H i hm] at hcs1;refine(hInv.var i b cs hb1 hcs1).mono stp ?_;refine hS.ext.old b (Qd5 hInv b (List.mem_of_getElem? hb1)) (λhx=>?_) (λT hT' hb' => ?_)
     .obtain⟨j,hj,he⟩:=List.mem_map.1 hx;have g1:=Qbt (hI' j hj) 0;rw[he] at g1;have:=Qpy hInv.nodup g1 hb1;subst this;exact hm hj
     .obtain⟨j,hj,rfl⟩:=List.mem_map.1 hT';exact(hInv.tok j _ b (Qbt (hJ' j hj) tok0) hb').2.1 (List.mem_of_getElem? hb1)
   .rw[List.getElem?_append_right (by omega),List.getElem?_drop] at hb1;rw[List.getElem?_append_right (by rw[Qn6]; omega),Qn6,List.getElem?_map,List.getElem?_drop] at hcs1;obtain⟨cs0,hc0,rfl⟩:=Option.map_eq_some_iff.1 hcs1;rw[hN] at hb1;exact core _ b hb1 cs0 hc0
  .show(updL G.tok J Gs.tok++Gs.tok.drop J.length).map (·.len)=updL L J lv' ++ lv'.drop J.length;rw[show lv' = Gs.tok.map (·.len) from hV.live.symm,show L=G.tok.map (·.len) from hInv.live.symm];have:∀ (J:List Nat) (A N:List Tok),(updL A J N).map (·.len)=updL (A.map (·.len)) J (N.map (·.len)):=by
    intro J
    induction J with
    | nil=>intro A N; cases N<;>rfl
    | cons j J ih =>
     intro A N;cases N with
     | nil=>rfl
     | cons n N=>rw[updL,ih,List.map_cons,updL,List.map_set]
   rw[List.map_append,this J G.tok Gs.tok,List.map_drop]
  .rcases tokCase t T ht with ⟨k,hk,hT'⟩ | ⟨hm,hT'⟩
   .obtain⟨q1,q2,q3⟩:=hV.tok k T b hT' hb;refine⟨q1,λhx=>?_,λt' T' ht' hb' => ?_⟩
    .rcases List.mem_append.1 (show b ∈ G.name++Gs.name.drop I.length from hx) with hx | hx
     rotate_left
     .exact q2 (newName b hx).1
     rcases blkFrom T (List.mem_of_getElem? hT') b hb with h | h | ⟨T2,h,hb2⟩
     .have:=Qd5 hInv b hx; omega
     .obtain⟨k2,hk2⟩:=List.getElem?_of_mem h;exact q2 (List.mem_of_getElem? (hS.name k2 b hk2))
     .obtain⟨j,hj,rfl⟩:=List.mem_map.1 h;exact(hInv.tok j _ b (Qbt (hJ' j hj) tok0) hb2).2.1 hx
    .rcases tokCase t' T' ht' with ⟨k', hk', hT2⟩ | ⟨hm', hT2⟩
     .have:=q3 k' T' hT2 hb';subst this;exact Option.some.inj (hk'.symm.trans hk)
     .obtain⟨z1,z2,z3⟩:=hInv.tok t' T' b hT2 hb';rcases blkFrom T (List.mem_of_getElem? hT') b hb with h | h | ⟨T2,h,hb2⟩
      .omega
      .exact absurd (Qfq hI' h) z2
      .obtain⟨j,hj,rfl⟩:=List.mem_map.1 h;have:=z3 j _ (Qbt (hJ' j hj) tok0) hb2;subst this;exact absurd hj hm'
   .obtain⟨z1,z2,z3⟩:=hInv.tok t T b hT' hb;refine⟨Nat.lt_of_lt_of_le z1 hS.ext.size,λhx=>?_,λt' T' ht' hb' => ?_⟩
    .rcases List.mem_append.1 (show b ∈ G.name++Gs.name.drop I.length from hx) with hx | hx
     .exact z2 hx
     .rcases (newName b hx).2 with h | ⟨T2,h,hb2⟩
      .omega
      .obtain⟨j,hj,rfl⟩:=List.mem_map.1 h;have:=z3 j _ (Qbt (hJ' j hj) tok0) hb2;subst this;exact absurd hj hm
    rcases tokCase t' T' ht' with ⟨k', hk', hT2⟩ | ⟨hm', hT2⟩
    .rcases blkFrom T' (List.mem_of_getElem? hT2) b hb' with h | h | ⟨T2,h,hb2⟩
     .omega
     .exact absurd (Qfq hI' h) z2
     .obtain⟨j,hj,rfl⟩:=List.mem_map.1 h;have:=z3 j _ (Qbt (hJ' j hj) tok0) hb2;subst this;exact absurd hj hm
    .exact z3 t' T' hT2 hb'
 exact⟨u,G.backN Gs I J,he,stp,inv,Qad3 (I:=II) (J:=JJ) eN bT (by rw[lII,lJJ]; exact hr) hD⟩
theorem CallX.frame{E:Value->Ending}{P:Program}{f:FuncId}{args:List D}{hs hs' : List (List D)}{lv lv' : List Nat}{r:D}(k:CallX E P f args ⟨hs,lv⟩ r ⟨hs', lv'⟩)(I J:List Nat){H:List (List D)}{L:List Nat}(nI:I.Nodup)(nJ:J.Nodup)(hI:∀ i ∈ I,i<H.length)(hJ:∀ j ∈ J,j<L.length)
  (eH:I.map (H.getD · [])=hs.map λcs=>cs.map (D.ren I J)) (eL:J.map (L.getD · 0)=lv) (hl' : hs'.length=I.length) (hlv' : J.length<=lv'.length)
  (ha:args.all (D.lt I.length J.length)=true) (hlt:hs.all (λcs=>cs.all (D.lt I.length J.length))=true) (hr:r.lt I.length lv'.length=true) (hlt' : hs'.all (λcs=>cs.all (D.lt I.length lv'.length))=true) :
  CallX E P f (args.map (D.ren I J)) ⟨H,L⟩ (r.ren I (Qgw J L.length lv'.length)) ⟨updL H I (hs'.map λcs=>cs.map (D.ren I (Qgw J L.length lv'.length))),updL L J lv' ++ lv'.drop J.length⟩:=by
 have e:=k.frameN I J nI nJ hI hJ eH eL (Nat.le_of_eq hl'.symm) hlv' ha hlt (by rw[hl']; exact hr) (by rw[hl']; exact hlt');have e1:Qgw I H.length hs'.length=I:=by unfold Qgw; rw[hl', Nat.sub_self]; simp
 have e2:hs'.drop I.length=[]:=List.drop_eq_nil_iff.2 (Nat.le_of_eq hl');rw[e1,e2] at e;simpa using e
def Qvn:List Nat->Bool
 | []=>true
 | x::r => !r.contains x&&Qvn r
theorem Qc7:∀ l:List Nat,Qvn l=true->l.Nodup
 | [],_=>List.nodup_nil
 | x::r,h=>by
  simp only[Qvn,Bool.and_eq_true] at h;exact List.nodup_cons.2 ⟨by simpa using h.1,Qc7 r h.2⟩
def Qu1(I J:List Nat)(nh nl:Nat)(args:List D)(hs hs' : List (List D))(lv' : List Nat)(r:D):Bool :=
 Qvn I&&Qvn J&&I.all (Nat.blt · nh)&&J.all (Nat.blt · nl)&&hs'.length==I.length&&Nat.ble J.length lv'.length&&args.all (D.lt I.length J.length)&&hs.all (λcs=>cs.all (D.lt I.length J.length))&&r.lt I.length lv'.length&&hs'.all (λcs=>cs.all (D.lt I.length lv'.length))
theorem Qkd{I:List Nat}{n:Nat}(h:I.all (Nat.blt · n)=true):∀ i ∈ I,i<n:=λi hi=>by
 rw[List.all_eq_true] at h;simpa [Nat.blt_eq] using h i hi
theorem CallX.fr{E:Value->Ending}{P:Program}{f:FuncId}{args:List D}{hs hs' : List (List D)}{lv lv' : List Nat}{r:D}(k:CallX E P f args ⟨hs,lv⟩ r ⟨hs', lv'⟩)(I J:List Nat){H:List (List D)}{L:List Nat}(c:Qu1 I J H.length L.length args hs hs' lv' r=true)
  (eH:I.map (H.getD · [])=hs.map λcs=>cs.map (D.ren I J)) (eL:J.map (L.getD · 0)=lv):CallX E P f (args.map (D.ren I J)) ⟨H,L⟩ (r.ren I (Qgw J L.length lv'.length)) ⟨updL H I (hs'.map λcs=>cs.map (D.ren I (Qgw J L.length lv'.length))),updL L J lv' ++ lv'.drop J.length⟩:=by
 unfold Qu1 at c;simp only[Bool.and_eq_true] at c;obtain⟨⟨⟨⟨⟨⟨⟨⟨⟨c1,c2⟩,c3⟩,c4⟩,c5⟩,c6⟩,c7⟩,c8⟩,c9⟩,c10⟩:=c;exact k.frame I J (Qc7 I c1) (Qc7 J c2) (Qkd c3) (Qkd c4) eH eL (by simpa using c5) (Nat.le_of_ble_eq_true c6) c7 c8 c9 c10
def Qaas(I J:List Nat)(nh nl:Nat)(args:List D)(hs hs' : List (List D))(lv' : List Nat)(r:D):Bool :=
 Qvn I&&Qvn J&&I.all (Nat.blt · nh)&&J.all (Nat.blt · nl)&&Nat.ble I.length hs'.length&&Nat.ble J.length lv'.length&&args.all (D.lt I.length J.length)&&hs.all (λcs=>cs.all (D.lt I.length J.length))&&r.lt hs'.length lv'.length&&hs'.all (λcs=>cs.all (D.lt hs'.length lv'.length))
theorem CallX.frN{E:Value->Ending}{P:Program}{f:FuncId}{args:List D}{hs hs' : List (List D)}{lv lv' : List Nat}{r:D}(k:CallX E P f args ⟨hs,lv⟩ r ⟨hs', lv'⟩)(I J:List Nat){H:List (List D)}{L:List Nat}(c:Qaas I J H.length L.length args hs hs' lv' r=true)
  (eH:I.map (H.getD · [])=hs.map λcs=>cs.map (D.ren I J)) (eL:J.map (L.getD · 0)=lv):CallX E P f (args.map (D.ren I J)) ⟨H,L⟩ (r.ren (Qgw I H.length hs'.length) (Qgw J L.length lv'.length)) ⟨updL H I (hs'.map λcs=>cs.map (D.ren (Qgw I H.length hs'.length) (Qgw J L.length lv'.length)))++(hs'.drop I.length).map (λcs=>cs.map (D.ren (Qgw I H.length hs'.length) (Qgw J L.length lv'.length))),updL L J lv' ++ lv'.drop J.length⟩:=by
 unfold Qaas at c;simp only[Bool.and_eq_true] at c;obtain⟨⟨⟨⟨⟨⟨⟨⟨⟨c1,c2⟩,c3⟩,c4⟩,c5⟩,c6⟩,c7⟩,c8⟩,c9⟩,c10⟩:=c;exact k.frameN I J (Qc7 I c1) (Qc7 J c2) (Qkd c3) (Qkd c4) eH eL (Nat.le_of_ble_eq_true c5) (Nat.le_of_ble_eq_true c6) c7 c8 c9 c10
theorem Q6a{α : Type}:∀ (I:List Nat) (N H:List α),I.Nodup->(∀ (k i:Nat) n,I[k]? = some i->N[k]? = some n->H[i]? = some n)->updL H I N=H
 | [],N,H,_,_=>by cases N<;>rfl
 | i::I,[],H,_,_=>rfl
 | i::I,n::N,H,hd,h=>by
  have h0:H[i]? = some n:=h 0 i n rfl rfl;have e:H.set i n=H:=by
   apply List.ext_getElem?;intro j;by_cases hj:j=i
   .subst hj;rw[List.getElem?_set_self (List.getElem?_eq_some_iff.1 h0).1,h0]
   .rw[List.getElem?_set_ne (λe=>hj e.symm)]
  rw[updL,e];exact Q6a I N H (List.nodup_cons.1 hd).2 λk j m hk hm=>h (k+1) j m (by simpa using hk) (by simpa using hm)
theorem CallX.weak{E:Value->Ending}{P:Program}{f:FuncId}{args args' : List D}{s:S}{r:D}{s' : S}(k:CallX E P f args' s r s')(hl:args.length=args'.length)(h:∀ (j:Nat) d', args'[j]? = some d' -> ∃ d,args[j]? = some d/\LeD d d'):CallX E P f args s r s' :=
 ⟨k.fn,λG w us hI hs hrel=>k.out G w us hI (by rw[hs,hl]) λj d' u hd hu=>by
  obtain⟨d,h1,h2⟩:=h j d' hd;exact(hrel j d u h1 hu).le h2⟩
end
def Qfr(tb:Tbl):List Field->Nat->Bool
 | [],_=>true
 | f::r,i=>f.offset==i&&(f.name != "_" && ((match tb.lookup f.type with | some ti=>(match ti.d with | .string | .bool | .int _=>true | _=>false) | none=>false)&&Qfr tb r (i+1)))
def kEq(tb:Tbl)(ti:TI)(a b:V):Option Bool:=match ti.d with
 | .struct fs=>match a,b with
  | .agg xs,.agg ys=>if ti.cmp&&(Qfr tb fs.toList 0&&(xs.length==fs.size&&ys.length==fs.size)) then Qkx tb xs ys fs.toList else none
  | _,_=>none
 | .string=>Qku ti.d a b
 | .bool=>Qku ti.d a b
 | .int _=>Qku ti.d a b
 | _=>none
def kOk(tb:Tbl)(ti:TI)(a:V):Bool:=match ti.d,a with
 | .struct fs,.agg xs=>ti.cmp&&(Qfr tb fs.toList 0&&xs.length==fs.size)
 | .string,.v (.string _)=>true
 | .bool,.v (.bool _)=>true
 | .int k,.v (.int k' _)=>k==k'
 | _,_=>false
def Qxs(eq:V->V->Option Bool)(k:V):List (List V)->Option (Option V)
 | []=>some none
 | [k', v]::r=>match eq k k' with
  | some true=>some (some v)
  | some false=>Qxs eq k r
  | none=>none
 | _=>none
def mSet(eq:V->V->Option Bool)(k v:V):List (List V)->Option (List (List V))
 | []=>some [[k,v]]
 | [k', v']::r=>match eq k k' with
  | some true=>some ([k,v]::r)
  | some false=>(mSet eq k v r).map ([k', v'] :: ·)
  | none=>none
 | _=>none
section
variable {P:Program} {tb:Tbl}
theorem Qxt{C:Nat->Nat->Prop}{w:World}{d:TypeDesc}{a b:V}(h:Qku d a b=some true){u v:Value}(hu:VRel C w a u)(hv:VRel C w b v):u=v:=by
 unfold Qku at h;split at h
 .rename_i x y; cases hu; cases hv;have:Qau x=Qau y:=by simpa using h
  unfold Qau at this;have h2:x.data=y.data:=Array.toList_inj.1 this;cases x; cases y; simp only at h2; rw[h2]
 .rename_i k0 k x k' y; cases hu; cases hv;split at h
  .rename_i hk; subst hk;have:x=y:=by simpa using h
   rw[this]
  .cases h
 .rename_i x y; cases hu; cases hv;have:x=y:=by simpa using h
  rw[this]
 .cases h
theorem Qtk{C:Nat->Nat->Prop}{w:World}{xs ys:List V}{us vs:Array Value}(hx:VRel C w (.agg xs) (.agg us))(hy:VRel C w (.agg ys) (.agg vs)) :
  ∀ (fs:List Field) (i:Nat),Qfr tb fs i=true->Qkx tb xs ys fs=some true->∀ j,i<=j->j<i+fs.length->us[j]? = vs[j]?
 | [],i,_,_,j,h1,h2=>by simp at h2; omega
 | f::r,i,hs,h,j,h1,h2=>by
  rw[Qfr] at hs;simp only[Bool.and_eq_true,beq_iff_eq] at hs;unfold Qkx at h;split at h
  .rename_i ti a b ht ha hb;split at h
   .rename_i p q hp hq;have hpq:p=true/\q=true:=by simpa using h
    rw[hpq.1] at hp;rw[hpq.2] at hq;by_cases hj:j=i
    .subst hj;cases hx with
     | agg _ _ hl1 _ hr1 =>
     cases hy with
     | agg _ _ hl2 _ hr2 =>
     rw[hs.1] at ha hb;have l1:=(List.getElem?_eq_some_iff.1 ha).1;have l2:=(List.getElem?_eq_some_iff.1 hb).1;have g1:us[j]? = some us[j]:=Array.getElem?_eq_getElem (by omega);have g2:vs[j]? = some vs[j]:=Array.getElem?_eq_getElem (by omega);rw[g1,g2,Qxt hp (hr1 _ _ _ ha g1) (hr2 _ _ _ hb g2)]
    .exact Qtk hx hy r (i+1) hs.2.2.2 hq j (by omega) (by simp only[List.length_cons] at h2; omega)
   .cases h
  .cases h
theorem Qp0:∀ (fs:List Field) (i:Nat),Qfr tb fs i=true->fs.all (λf=>f.name != "_")=true
 | [],_,_=>rfl
 | f::r,i,h=>by
  rw[Qfr] at h;simp only[Bool.and_eq_true] at h;rw[List.all_cons,h.2.1,Qp0 r (i+1) h.2.2.2]; rfl
theorem Qagt{C:Nat->Nat->Prop}{w:World}{ti:TI}{a b:V}(h:kEq tb ti a b=some true){u v:Value}(hu:VRel C w a u)(hv:VRel C w b v):u=v:=by
 unfold kEq at h;split at h
 .rename_i fs hd;split at h
  rotate_left
  .cases h
  rename_i xs ys;split at h
  .rename_i hc;simp only[Bool.and_eq_true,beq_iff_eq] at hc;obtain⟨us,rfl⟩:∃ us,u = .agg us:=by cases hu; exact⟨_,rfl⟩
   obtain⟨vs,rfl⟩:∃ vs,v = .agg vs:=by cases hv; exact⟨_,rfl⟩
   have key:=Qtk hu hv fs.toList 0 hc.2.1 h;cases hu with
   | agg _ _ hl1 _ hr1 =>
   cases hv with
   | agg _ _ hl2 _ hr2 =>
   congr 1;apply Array.ext_getElem?;intro j;by_cases hj:j<fs.size
   .exact key j (by omega) (by simpa using hj)
   .rw[Array.getElem?_eq_none (by omega),Array.getElem?_eq_none (by omega)]
  .cases h
 all_goals first | exact Qxt h hu hv | cases h
theorem Qais(hT:TblOk P tb){C:Nat->Nat->Prop}{w:World}{t:Nat}{ti:TI}(ht:tb.lookup t=some ti){a b:V}{r:Bool}(h:kEq tb ti a b=some r){u v:Value}(hu:VRel C w a u)(hv:VRel C w b v) :
  (Op.equal t u v).run P w = .ok r w:=by
 have hun:=hT.und ht;unfold kEq at h;split at h
 .rename_i fs hd;split at h
  rotate_left
  .cases h
  rename_i xs ys;split at h
  .rename_i hc;simp only[Bool.and_eq_true,beq_iff_eq] at hc;obtain⟨_,i,_,_,_,_,hcm,_⟩:=hT _ _ ht;have hcm:=hcm hc.1;obtain⟨us,rfl⟩:∃ us,u = .agg us:=by cases hu; exact⟨_,rfl⟩
   obtain⟨vs,rfl⟩:∃ vs,v = .agg vs:=by cases hv; exact⟨_,rfl⟩
   unfold Qagg at hcm;simp only[Bool.and_eq_true,Bool.not_eq_true'] at hcm;rw[hd] at hun;have hf:P.fieldsOf t=fs:=by unfold Program.fieldsOf; rw[hun]
   show(Op.equalIn 10000 t (.agg us) (.agg vs)).run P w = .ok r w;rw[run_equalIn_struct w 9999 t us vs (by rw[hf]; exact hun) hcm.1.1,hf];exact Qpt hT hu hv 9998 _ _ h (Qp0 _ 0 hc.2.1)
  .cases h
 all_goals first | exact(Q1q hT ht h hu hv 9999).2 | cases h
def mIdx(eq:V->V->Option Bool)(k:V):List (List V)->Option (Option Nat)
 | []=>some none
 | [k', _]::r=>match eq k k' with
  | some true=>some (some 0)
  | some false=>(mIdx eq k r).map λo=>o.map (· + 1)
  | none=>none
 | _=>none
theorem Q6b{eq:V->V->Option Bool}{k:V}:∀ {ms:List (List V)} {r:Option V},Qxs eq k ms=some r->∃ o,mIdx eq k ms=some o/\(match o with | none=>r=none | some j=>∃ k' v,ms[j]? = some [k', v]/\eq k k' = some true/\r=some v)
 | [],r,h=>by cases h; exact⟨none,rfl,rfl⟩
 | [k', v]::ms,r,h=>by
  rw[Qxs] at h;rw[mIdx];cases he:eq k k' with
  | none=>rw[he] at h; cases h
  | some b =>
   rw[he] at h;cases b with
   | true=>cases h; exact⟨some 0,rfl,k', v,rfl,he,rfl⟩
   | false =>
    obtain⟨o,h1,h2⟩:=Q6b h;simp only[h1];cases o with
    | none=>exact⟨none,rfl,h2⟩
    | some j=>exact⟨some (j+1),rfl,h2⟩
 | []::ms,r,h=>by simp[Qxs] at h
 | [_]::ms,r,h=>by simp[Qxs] at h
 | (_::_::_::_)::ms,r,h=>by simp[Qxs] at h
theorem Qaat{eq:V->V->Option Bool}{k v:V}:∀ {ms ms' : List (List V)},mSet eq k v ms=some ms' -> ∃ o,mIdx eq k ms=some o/\(match o with | none=>ms' = ms++[[k,v]] | some j=>(∃ k' v', ms[j]? = some [k', v']/\eq k k' = some true)/\ms' = ms.set j [k,v])
 | [],r,h=>by cases h; exact⟨none,rfl,rfl⟩
 | [k', v']::ms,r,h=>by
  rw[mSet] at h;rw[mIdx];cases he:eq k k' with
  | none=>rw[he] at h; cases h
  | some b =>
   rw[he] at h;cases b with
   | true=>cases h; exact⟨some 0,rfl,⟨k', v', rfl,he⟩,rfl⟩
   | false =>
    obtain⟨q,h0,rfl⟩:=Option.map_eq_some_iff.1 h;obtain⟨o,h1,h2⟩:=Qaat h0;simp only[h1];cases o with
    | none=>exact⟨none,rfl,by simp only at h2 ⊢; rw[h2]; rfl⟩
    | some j=>exact⟨some (j+1),rfl,h2.1,by simp only at h2 ⊢; rw[h2.2]; rfl⟩
 | []::ms,r,h=>by simp[mSet] at h
 | [_]::ms,r,h=>by simp[mSet] at h
 | (_::_::_::_)::ms,r,h=>by simp[mSet] at h
def Qad4(l:List MapEntry)(i:Nat)(a:Option (Nat×Value)):Option Nat->Prop
 | none=>a=none
 | some j=>∃ e,l[j]? = some e/\a=some (i+j,e.val)
def RowsL(C:Nat->Nat->Prop)(w:World)(ms:List (List V))(l:List MapEntry):Prop :=
 ms.length=l.length/\∀ (i:Nat) m e,ms[i]? = some m->l[i]? = some e->∃ k v,m=[k,v]/\VRel C w k e.key/\VRel C w v e.val
theorem RowsL.tail{C:Nat->Nat->Prop}{w:World}{m:List V}{ms:List (List V)}{e:MapEntry}{l:List MapEntry}(h:RowsL C w (m::ms) (e::l)):RowsL C w ms l :=
 ⟨by have:=h.1; simpa using this,λi m e hm he=>h.2 (i+1) m e hm he⟩
theorem RowsL.nil{C:Nat->Nat->Prop}{w:World}{l:List MapEntry}(h:RowsL C w [] l):l=[]:=List.eq_nil_of_length_eq_zero (by have:=h.1; simpa using this.symm)
theorem Q1v(hT:TblOk P tb){C:Nat->Nat->Prop}{w:World}{t:Nat}{ti:TI}(ht:tb.lookup t=some ti){k:V}{u:Value}(hu:VRel C w k u) :
  ∀ (ms:List (List V)) (l:List MapEntry) (i:Nat) (o:Option Nat),RowsL C w ms l->mIdx (kEq tb ti) k ms=some o->∃ a,(Instr.findAsking t u l i).run P w = .ok a w/\Qad4 l i a o
 | [],l,i,o,hr,h=>by
  cases h;rw[hr.nil];exact⟨none,rfl,rfl⟩
 | m::ms,l,i,o,hr,h=>by
  cases l with
  | nil=>have:=hr.1; simp at this
  | cons e l =>
   obtain⟨k', v,rfl,h1,h2⟩:=hr.2 0 m e rfl rfl;rw[mIdx] at h;unfold Instr.findAsking;cases he:kEq tb ti k k' with
   | none=>rw[he] at h; cases h
   | some b =>
    rw[he] at h;have hq:=Qais hT ht he hu h1;simp only[Sem.run_bind,hq,Result.andThen_ok];cases b with
    | true=>cases h; exact⟨_,rfl,e,rfl,rfl⟩
    | false =>
     obtain⟨o', h3,rfl⟩:=Option.map_eq_some_iff.1 h;obtain⟨a,g1,g2⟩:=Q1v hT ht hu ms l (i+1) o' hr.tail h3;refine⟨a,by simpa using g1,?_⟩;cases o' with
     | none=>exact g2
     | some j=>obtain⟨e', q1,q2⟩:=g2; exact⟨e', q1,by rw[q2]; congr 2; show i+1+j=i+(j+1); omega⟩
theorem Q6c{C:Nat->Nat->Prop}{w:World}{d:TypeDesc}{a b:V}{r:Bool}(h:Qku d a b=some r){u v:Value}(hu:VRel C w a u)(hv:VRel C w b v):Instr.sameNow d u v=some r:=by
 unfold Qku at h;split at h
 .rename_i x y; cases hu; cases hv; cases h;simp only[Instr.sameNow];congr 1;rw[Bool.eq_iff_iff,Go.MapKept.bytes_beq,beq_iff_eq];refine⟨λh=>by rw[h],λh=>?_⟩;unfold Qau at h;have h2:x.data=y.data:=Array.toList_inj.1 h;cases x; cases y; simp only at h2; rw[h2]
 .rename_i k0 k x k' y; cases hu; cases hv;split at h
  .rename_i hk; subst hk; cases h;simp[Instr.sameNow]
  .cases h
 .rename_i x y; cases hu; cases hv; cases h;rfl
 .cases h
theorem Qad5{C:Nat->Nat->Prop}{w:World}{d:TypeDesc}{k:V}{u:Value}(hu:VRel C w k u) :
  ∀ (ms:List (List V)) (l:List MapEntry) (i:Nat) (o:Option Nat),RowsL C w ms l->mIdx (Qku d) k ms=some o->∃ a,Instr.findNow d u l i=some a/\Qad4 l i a o
 | [],l,i,o,hr,h=>by
  cases h;rw[hr.nil];exact⟨none,rfl,rfl⟩
 | m::ms,l,i,o,hr,h=>by
  cases l with
  | nil=>have:=hr.1; simp at this
  | cons e l =>
   obtain⟨k', v,rfl,h1,h2⟩:=hr.2 0 m e rfl rfl;rw[mIdx] at h;unfold Instr.findNow;cases he:Qku d k k' with
   | none=>rw[he] at h; cases h
   | some b =>
    rw[he] at h;rw[Q6c he hu h1];cases b with
    | true=>cases h; exact⟨_,rfl,e,rfl,rfl⟩
    | false =>
     obtain⟨o', h3,rfl⟩:=Option.map_eq_some_iff.1 h;obtain⟨a,g1,g2⟩:=Qad5 hu ms l (i+1) o' hr.tail h3;refine⟨a,by simpa using g1,?_⟩;cases o' with
     | none=>exact g2
     | some j=>obtain⟨e', q1,q2⟩:=g2; exact⟨e', q1,by rw[q2]; congr 2; show i+1+j=i+(j+1); omega⟩
theorem Qaau(hT:TblOk P tb){C:Nat->Nat->Prop}{w:World}{t:Nat}{ti:TI}(ht:tb.lookup t=some ti){k:V}{u:Value}(hu:VRel C w k u){ms:List (List V)}{es:Array MapEntry}{o:Option Nat}
  (hr:MapRows C w ms es) (h:mIdx (kEq tb ti) k ms=some o):∃ a,(Instr.findKey t u es.toList).run P w = .ok a w/\Qad4 es.toList 0 a o:=by
 have hun:=hT.und ht;have hR:RowsL C w ms es.toList:=⟨by simpa using hr.1,λi m e hm he=>hr.2 i m e hm (by simpa using he)⟩;have now:(∀ a b,kEq tb ti a b=Qku ti.d a b)->∃ a,(Instr.findKey t u es.toList).run P w = .ok a w/\Qad4 es.toList 0 a o:=λhe=>by
  have e:kEq tb ti=Qku ti.d:=funext λa=>funext λb=>he a b
  rw[e] at h;obtain⟨a,h1,h2⟩:=Qad5 hu ms es.toList 0 o hR h;exact⟨a,Go.MapKept.run_findKey hun h1,h2⟩
 have nil:es.toList=[]->∃ a,(Instr.findKey t u es.toList).run P w = .ok a w/\Qad4 es.toList 0 a o:=λe=>by
  have hm:ms=[]:=List.eq_nil_of_length_eq_zero (by rw[hR.1,e]; rfl);subst hm;cases h;exact⟨none,Go.MapKept.run_findKey hun (by rw[e]; rfl),rfl⟩
 cases hd:ti.d with
 | string=>exact now λa b=>by unfold kEq; rw[hd]
 | bool=>exact now λa b=>by unfold kEq; rw[hd]
 | int k=>exact now λa b=>by unfold kEq; rw[hd]
 | struct fs =>
  cases hl:es.toList with
  | nil=>rw[<-hl]; exact nil hl
  | cons e l =>
   rw[<-hl];obtain⟨a,h1,h2⟩:=Q1v hT ht hu ms es.toList 0 o hR h;refine⟨a,?_,h2⟩;unfold Instr.findKey;simp only[Sem.run_bind,run_underlying hun,Result.andThen_ok,hd];rw[hl] at h1 ⊢;simp only[Instr.findNow,Instr.sameNow];exact h1
 | _ =>
  cases hl:es.toList with
  | nil=>rw[<-hl]; exact nil hl
  | cons e l =>
   exfalso;rw[hl] at hR;cases ms with
   | nil=>have:=hR.1; simp at this
   | cons m ms =>
    obtain⟨k', v,rfl,-⟩:=hR.2 0 m e rfl rfl;rw[mIdx] at h;have:kEq tb ti k k' = none:=by unfold kEq; rw[hd]
    rw[this] at h; cases h
theorem Q6d(hT:TblOk P tb){C:Nat->Nat->Prop}{w:World}{t:Nat}{ti:TI}(ht:tb.lookup t=some ti){k:V}{u:Value}(hk:kOk tb ti k=true)(hu:VRel C w k u)(e:Bool):(Instr.checkKey e 10000 t u).run P w = .ok () w:=by
 have hun:=hT.und ht;unfold kOk at hk;split at hk
 ·rename_i fs xs hd;simp only[Bool.and_eq_true,beq_iff_eq] at hk;obtain⟨us,rfl⟩:∃ us,u = .agg us:=by cases hu; exact⟨_,rfl⟩
  cases hu with
  | agg _ _ hl hone hr =>
  unfold Instr.checkKey;rw[hd] at hun;simp only[Sem.run_bind,run_underlying hun,Result.andThen_ok];have one:∀ (f:Field) (v:Value),(match tb.lookup f.type with | some ti=>(match ti.d with | .string | .bool | .int _=>true | _=>false) | none=>false)=true->(Instr.checkKey e 9999 f.type v).run P w = .ok () w/\∃ tf,tb.lookup f.type=some tf/\Qps tf.d=false:=λf v hf=>by
   split at hf
   ·rename_i tf htf;have hu:=hT.und htf;unfold Instr.checkKey;split at hf
    ·rename_i hdf; rw[hdf] at hu; exact⟨by simp[run_underlying hu],tf,htf,by rw[hdf]; rfl⟩
    ·rename_i hdf; rw[hdf] at hu; exact⟨by simp[run_underlying hu],tf,htf,by rw[hdf]; rfl⟩
    ·rename_i hdf; rw[hdf] at hu; exact⟨by simp[run_underlying hu],tf,htf,by rw[hdf]; rfl⟩
    ·cases hf
   ·cases hf
  rw[<-Array.forIn_toList];have hsz:fs.toList.length<=us.size:=by rw[<-hl,hk.2.2]; simp
  have hfs:=hk.2.1;have key:∀ (l:List Field) (i:Nat),Qfr tb l i=true->i+l.length<=us.size->(forIn l PUnit.unit (λf (_:PUnit)=>(do
    if f.name ≠ "_" then Instr.checkKey e 9999 f.type (<-part f.type us f.offset)
    pure (ForInStep.yield PUnit.unit):Sem (ForInStep PUnit)))).run P w = .ok PUnit.unit w:=by
   intro l
   induction l with
   | nil=>intro i _ _; rfl
   | cons f l ih =>
    intro i hs hz;rw[Qfr] at hs;simp only[Bool.and_eq_true,beq_iff_eq,bne_iff_ne] at hs;simp only[List.length_cons] at hz;have hcell:us[f.offset]? = some us[i]:=by rw[hs.1]; exact Array.getElem?_eq_getElem (by omega)
    obtain⟨c1,tf,c2,c3⟩:=one f us[i] hs.2.2.1;have ih:=ih (i+1) hs.2.2.2 (by omega);simp only[List.forIn_cons,if_pos hs.2.1,Sem.run_bind,Q2k hT c2 c3 w hcell,Result.andThen_ok,c1];simpa using ih
  have hk0:=key fs.toList 0 hfs (by omega);simp at hk0 ⊢;rw[hk0]; rfl
 ·rename_i z hd;unfold Instr.checkKey;rename_i hd;cases hu;rw[hd] at hun;simp[run_underlying hun]
 ·rename_i z hd;unfold Instr.checkKey;cases hu;rw[hd] at hun;simp[run_underlying hun]
 ·rename_i z hd;unfold Instr.checkKey;cases hu;rw[hd] at hun;simp[run_underlying hun]
 ·cases hk
theorem Q6e{C:Nat->Nat->Prop}{w:World}{d:TypeDesc}{a b:V}{r:Bool}(h:Qku d a b=some r){u:Value}(hu:VRel C w a u)(n:Nat):Instr.sameBits n u u=true:=by
 unfold Qku at h;split at h
 .rename_i x y; cases hu;cases n<;>simp only[Instr.sameBits]<;>exact(Go.MapKept.bytes_beq x x).2 rfl
 .rename_i k0 k x k' y; cases hu;cases n<;>simp[Instr.sameBits]
 .rename_i x y; cases hu;cases n<;>simp[Instr.sameBits]
 .cases h
theorem Qxu{C:Nat->Nat->Prop}{w:World}{xs ys:List V}{us:Array Value}(hx:VRel C w (.agg xs) (.agg us))(n:Nat) :
  ∀ (fs:List Field) (i:Nat),Qfr tb fs i=true->Qkx tb xs ys fs=some true->∀ j u,i<=j->j<i+fs.length->us[j]? = some u->Instr.sameBits n u u=true
 | [],i,_,_,j,u,h1,h2,_=>by simp at h2; omega
 | f::r,i,hs,h,j,u,h1,h2,hu=>by
  rw[Qfr] at hs;simp only[Bool.and_eq_true,beq_iff_eq] at hs;unfold Qkx at h;split at h
  .rename_i ti a b ht ha hb;split at h
   .rename_i p q hp hq;have hpq:p=true/\q=true:=by simpa using h
    rw[hpq.2] at hq;by_cases hj:j=i
    .subst hj;cases hx with
     | agg _ _ hl1 _ hr1 =>
     rw[hs.1] at ha;exact Q6e hp (hr1 _ _ _ ha hu) n
    .exact Qxu hx n r (i+1) hs.2.2.2 hq j u (by omega) (by simp only[List.length_cons] at h2; omega) hu
   .cases h
  .cases h
theorem Qad6(f:Value->Value->Bool):∀ l:List Value,(∀ x ∈ l,f x x=true)->((l.zip l).all λ(x,y)=>f x y)=true
 | [],_=>rfl
 | x::r,h=>by
  rw[List.zip_cons_cons,List.all_cons,Qad6 f r λy hy=>h y (List.mem_cons_of_mem _ hy)];simp[h x (List.mem_cons_self ..)]
theorem Qagu{C:Nat->Nat->Prop}{w:World}{ti:TI}{a b:V}(h:kEq tb ti a b=some true){u:Value}(hu:VRel C w a u):Instr.sameBits 10000 u u=true:=by
 unfold kEq at h;split at h
 .rename_i fs hd;split at h
  rotate_left
  .cases h
  rename_i xs ys;split at h
  .rename_i hc;simp only[Bool.and_eq_true,beq_iff_eq] at hc;obtain⟨us,rfl⟩:∃ us,u = .agg us:=by cases hu; exact⟨_,rfl⟩
   have key:=Qxu hu 9999 fs.toList 0 hc.2.1 h;have hl:xs.length=us.size:=by cases hu with | agg _ _ hl1 _ _=>exact hl1
   show(us.size==us.size&&((us.toList.zip us.toList).all λ(x,y)=>Instr.sameBits 9999 x y))=true;rw[Qad6 _ _ λx hx=>by
    obtain⟨j,hj⟩:=List.getElem?_of_mem hx;have hjl:=(List.getElem?_eq_some_iff.1 hj).1;exact key j x (Nat.zero_le _) (by simp at hjl ⊢; omega) (by simpa using hj)]
   simp
  .cases h
 all_goals first | exact Q6e h hu 10000 | cases h
def Qn8(tb:Tbl)(mt:Nat)(x k:D)(ok:Bool)(s:S)(K:D->S->Prop):Prop :=
 match x,unp k,tb.lookup mt with
 | .mh nm,some kx,some tm=>match tm.d with
  | .map kt et=>match tb.lookup kt,tb.lookup et with
   | some tk,some te=>kOk tb tk kx=true/\∃ fl ms r z v b,s.heap[nm]? = some [.tup [.p (.sl fl ms)]]/\Qxs (kEq tb tk) kx ms=some r/\absV te.zero=some z/\LeV (r.getD z) v/\b=r.isSome /\
    K (if ok then .tup [.p v,.p (.v (.bool b))] else .p v) s
   | _,_=>False
  | _=>False
 | _,_,_=>False
theorem Q21(hT:TblOk P tb){G:Gh}{w:World}{s:S}(hI:Inv G s w){K:D->S->Prop}{mt:Nat}{x k:D}{ok:Bool}{u v:Value}(hx:DRel G w x u)(hk:DRel G w k v)(h:Qn8 tb mt x k ok s K) :
  Out P G w ((Instr.lookup mt u v ok).run P w) K:=by
 unfold Qn8 at h;split at h
 .rename_i nm kx tm hkx htm;split at h
  .rename_i kt et hd;split at h
   .rename_i tk te htk hte;obtain⟨ho,fl,ms,r,z,v', b', hs,hf,hz,hle,rfl,hK⟩:=h;have hkr:=Qfe hk hkx;cases hx with
    | mh _ b hb =>
    have hv:=hI.var nm b _ hb hs;cases hv with
    | cells us ty h1 h2 h3 =>
     have hlen:us.size=1:=h2;obtain⟨g1,g2⟩:=h3 0 _ us[0] rfl (Array.getElem?_eq_getElem (by omega));generalize us[0]=q at g1 g2;cases g2;simp[Value.oneCell'] at g1
    | map fl' ms' es clock h1 h2 h3 =>
    cases h1;have hun:=hT.und htm;rw[hd] at hun;obtain⟨o,hi,hr⟩:=Q6b hf;obtain⟨a,f1,f2⟩:=Qaau hT htk hkr h3 hi;have hc:=Q6d hT htk ho hkr es.isEmpty;have hz' := hT.zr hte w;have hzr:VRel G.com w z te.zero:=Ql4 hz;have hres:∃ q,VRel G.com w (r.getD z) q/\(Instr.lookup mt (.map (some b)) v ok).run P w = .ok (if ok then .tuple #[q,.bool r.isSome] else q) w:=by
     unfold Instr.lookup;simp only[Sem.run_bind,run_underlying hun,Result.andThen_ok,Go.MapKept.run_getObj_map h2,Sem.run_pure,hc,f1];cases o with
     | none =>
      simp only at hr;subst hr;have:a=none:=f2;subst this;refine⟨te.zero,hzr,?_⟩;simp[hz']
     | some j =>
      obtain⟨k', v0,m1,m2,rfl⟩:=hr;obtain⟨e,e1,rfl⟩:=f2;obtain⟨k2,v2,q1,q2,q3⟩:=h3.2 j _ e m1 (by simpa using e1);cases q1;exact⟨e.val,q3,by simp⟩
    obtain⟨q,q1,q2⟩:=hres;have q1:=VRel.le hle q1;refine .pure hI _ q2 ?_ hK;cases ok with
    | false=>exact .p _ _ q1
    | true =>
     refine .tup _ _ rfl λj c u hc hu=>?_
     match j with
     | 0=>cases hc; cases hu; exact .p _ _ q1
     | 1=>cases hc; cases hu; exact .p _ _ (.v _ rfl)
     | j+2=>simp at hc
   .exact h.elim
  .exact h.elim
 .exact h.elim
def Q8r(tb:Tbl)(mt:Nat)(x k y:D)(s:S)(K:D->S->Prop):Prop :=
 match x,unp k,unp y,tb.lookup mt with
 | .mh nm,some kx,some vx,some tm=>match tm.d with
  | .map kt _=>match tb.lookup kt with
   | some tk=>kOk tb tk kx=true/\∃ fl ms ms' v,s.heap[nm]? = some [.tup [.p (.sl fl ms)]]/\LeV vx v/\mSet (kEq tb tk) kx v ms=some ms' /\ K .undef ⟨s.heap.set nm [.tup [.p (.sl fl ms')]],s.live⟩
   | none=>False
  | _=>False
 | _,_,_,_=>False
theorem Q22(hT:TblOk P tb){G:Gh}{w:World}{s:S}(hI:Inv G s w){K:D->S->Prop}{mt:Nat}{x k y:D}{u v z:Value}(hx:DRel G w x u)(hk:DRel G w k v)(hy:DRel G w y z)(h:Q8r tb mt x k y s K) :
  ∃ w' s', (Instr.mapUpdate mt u v z).run P w = .ok () w' /\ Stp G w G w' /\ Inv G s' w' /\ K .undef s' := by
 unfold Q8r at h;split at h
 .rename_i nm kx vx tm hkx hvx htm;split at h
  .rename_i kt et hd;split at h
   .rename_i tk htk;obtain⟨ho,fl,ms,ms', v', hs,hle,hset,hK⟩:=h;have hkr:=Qfe hk hkx;have hvr:=VRel.le hle (Qfe hy hvx);cases hx with
    | mh _ b hb =>
    have hv:=hI.var nm b _ hb hs;cases hv with
    | cells us ty h1 h2 h3 =>
     have hlen:us.size=1:=h2;obtain⟨g1,g2⟩:=h3 0 _ us[0] rfl (Array.getElem?_eq_getElem (by omega));generalize us[0]=q at g1 g2;cases g2;simp[Value.oneCell'] at g1
    | map fl' ms0 es clock h1 h2 h3 =>
    cases h1;have hun:=hT.und htm;rw[hd] at hun;obtain⟨o,hi,hr⟩:=Qaat hset;obtain⟨a,f1,f2⟩:=Qaau hT htk hkr h3 hi;have hc:=Q6d hT htk ho hkr false;have hbl:b<w.heap.size:=(Array.getElem?_eq_some_iff.1 h2).1;have hres:∃ es' clock', (Instr.mapUpdate mt (.map (some b)) v z).run P w = .ok () { w with heap:=w.heap.setIfInBounds b (.map es' clock') }/\MapRows G.com w ms' es' := by
     unfold Instr.mapUpdate;simp only[Sem.run_bind,run_underlying hun,Result.andThen_ok,Go.MapKept.run_getObj_map h2,Sem.run_pure,hc,f1];cases o with
     | none =>
      simp only at hr;have:a=none:=f2;subst this;refine⟨_,_,Go.MapKept.run_setObj_map _ h2,?_,λi m e hm he=>?_⟩
      .rw[hr]; simp[h3.1]
      .rw[hr] at hm;by_cases hil:i<ms.length
       .rw[List.getElem?_append_left hil] at hm;rw[Array.getElem?_push,if_neg (by rw[<-h3.1]; omega)] at he;exact h3.2 i m e hm he
       .have:i=ms.length:=by have:=(List.getElem?_eq_some_iff.1 hm).1; simp at this; omega
        subst this;rw[List.getElem?_concat_length] at hm;rw[Array.getElem?_push,if_pos h3.1] at he;cases hm; cases he;exact⟨kx,v', rfl,hkr,hvr⟩
     | some j =>
      obtain⟨⟨k', v0,m1,m2⟩,rfl⟩:=hr;obtain⟨e,e1,rfl⟩:=f2;have e1:es[j]? = some e:=by simpa using e1
      obtain⟨k2,v2,q1,q2,q3⟩:=h3.2 j _ e m1 e1;cases q1;have hsame:v=e.key:=Qagt m2 hkr q2;have hjl:=(Array.getElem?_eq_some_iff.1 e1).1;have hstay:(Instr.keyThatStays (((es[0+j]?).map (·.key)).getD v) v).run P w = .ok v w:=by
       rw[Nat.zero_add,e1];show(Instr.keyThatStays e.key v).run P w=_;rw[<-hsame];unfold Instr.keyThatStays;rw[Qagu m2 hkr];rfl
      refine⟨es.modify (0+j) λe=>{ e with key:=v,val:=z },clock,?_,?_,λi m e' hm he=>?_⟩
      .simp only[Sem.run_bind,hstay,Result.andThen_ok];exact Go.MapKept.run_setObj_map _ h2
      .simp[h3.1]
      .rw[Nat.zero_add] at he;by_cases hij:i=j
       .subst hij;have hl:i<ms.length:=(List.getElem?_eq_some_iff.1 m1).1;rw[List.getElem?_set_self hl] at hm;rw[Array.getElem?_modify,if_pos rfl,e1] at he;cases hm; cases he;exact⟨kx,v', rfl,hkr,hvr⟩
       .rw[List.getElem?_set_ne (Ne.symm hij)] at hm;rw[Array.getElem?_modify,if_neg (Ne.symm hij)] at he;exact h3.2 i m e' hm he
    obtain⟨es', clock', r1,r2⟩:=hres;obtain⟨t1,t2⟩:=Qaai hI nm b hb [.tup [.p (.sl fl ms')]] { w with heap:=w.heap.setIfInBounds b (.map es' clock') } rfl rfl rfl (by simp) (λsh hsh=>by unfold World.shape? at hsh; rw[h2] at hsh; cases hsh)
     (λk hk=>by simp[Ne.symm hk]) λhst =>.map fl ms' es' clock' rfl (by simp[hbl]) (r2.mono (by simp) hst.ext.com)
    exact⟨_,_,r1,t1,t2,hK⟩
   .exact h.elim
  .exact h.elim
 .exact h.elim
theorem Q8s{G:Gh}{w:World}{s:S}(hI:Inv G s w){K:D->S->Prop}(t:Nat)(h:∃ fl,K (.mh s.heap.length) ⟨s.heap++[[.tup [.p (.sl fl [])]]],s.live⟩):Out P G w ((Instr.makeMap t none).run P w) K:=by
 obtain⟨fl,h⟩:=h;obtain⟨h1,h2⟩:=Q1j hI [.tup [.p (.sl fl [])]] (.map #[] 0) λhst =>.map fl [] #[] 0 rfl (by rw[Qfo,if_pos rfl]) ⟨rfl,λi m e hm _=>by simp at hm⟩
 refine⟨.map (some w.heap.size),_,_,.mh s.heap.length,_,?_,h1,h2,.mh _ _ ?_,h⟩
 .simp[Instr.makeMap,Result.andThen]
 .rw[<-hI.names]; simp
end
end Go.Proofs.YtfgegilhjlnohaaGreat
end
