/- The proof's texts, part 3 of 12: the walks by a logic in which data are by value, the plain laws, and at the end the law, for every input. -/
import Derived.Test.YtagokkpnfceidaaGreatDoorMgParseTrees2

noncomputable section
namespace Go.Proofs.YtagokkpnfceidaaGreatDoor
open Go.RowKit
set_option linter.unusedSimpArgs false
set_option linter.unusedVariables false
inductive LeV:V→V→Prop where
 | refl (x:V):LeV x x
 | agg (xs ys:List V):xs.length=ys.length→(∀ (j:Nat) x y,xs[j]? = some x→ys[j]? = some y→LeV x y)→LeV (.agg xs) (.agg ys)
 | sl (f f' : Bool) (es es' : List (List V)):(f' = true→f=true)→es.length=es'.length→(∀ (i:Nat) e e', es[i]? = some e→es'[i]? = some e' → e.length=e'.length) →
   (∀ (i:Nat) e e', es[i]? = some e→es'[i]? = some e' → ∀ (k:Nat) c c', e[k]? = some c→e'[k]? = some c' → LeV c c')→LeV (.sl f es) (.sl f' es')
 | ep (xs ys:List V):xs.length=ys.length→(∀ (j:Nat) x y,xs[j]? = some x→ys[j]? = some y→LeV x y)→LeV (.ep xs) (.ep ys)
 | none (ys:List V):LeV (.v (.pointer none)) (.opt false ys)
 | opt (xs ys:List V):xs.length=ys.length→(∀ (j:Nat) x y,xs[j]? = some x→ys[j]? = some y→LeV x y)→LeV (.ep xs) (.opt true ys)
theorem Qil{α β : Type}{a:List α}{b:List β}(h:a.length=b.length){i:Nat}{x : β}(hx:b[i]? = some x):∃ y,a[i]? = some y:=by
 have:=(List.getElem?_eq_some_iff.1 hx).1;exact⟨a[i],List.getElem?_eq_getElem (by omega)⟩
theorem VRel.le{C:Nat→Nat→Prop}{w:World}{x y:V}(h:LeV x y):∀ {u:Value},VRel C w x u→VRel C w y u:=by
 induction h with
 | refl x=>exact fun h=>h
 | agg xs ys hl _ ih =>
  intro u h;cases h with
  | agg _ us h1 h2 h3 =>
   refine .agg _ _ (by omega) (fun j c u hc hu=>?_) (fun j c u hc hu=>?_)
   ·obtain⟨x,hx⟩:=Qil hl hc;exact h2 j x u hx hu
   ·obtain⟨x,hx⟩:=Qil hl hc;exact ih j x c hx hc (h3 j x u hx hu)
 | sl f f' es es' hf hl hk _ ih =>
  intro u h;cases h with
  | sl _ _ a cap size b off us g1 g2 g3 g4 g5 g6 g7 g8 =>
   rw[hl] at g1 g3 ⊢;refine .sl f' es' a cap size b off us g1 g2 (fun h=>g3 (hf h)) (fun e he=>?_) g5 (fun i k e c he hc=>?_) (fun i k e c he hc=>?_) (fun h=>g8 (hf h))
   ·obtain⟨i,hi⟩:=List.getElem?_of_mem he;obtain⟨x,hx⟩:=Qil hl hi;rw[← hk i x e hx hi];exact g4 x (List.mem_of_getElem? hx)
   ·obtain⟨x,hx⟩:=Qil hl he;obtain⟨y,hy⟩:=Qil (hk i x e hx he) hc;exact g6 i k x y hx hy
   ·obtain⟨x,hx⟩:=Qil hl he;obtain⟨y,hy⟩:=Qil (hk i x e hx he) hc;exact ih i x e hx he k y c hy hc (g7 i k x y hx hy)
 | ep xs ys hl _ ih =>
  intro u h;cases h with
  | ep _ b off us h1 h2 =>
   refine .ep _ b off us (fun k c hc=>?_) (fun k c hc=>?_)
   ·obtain⟨x,hx⟩:=Qil hl hc;exact h1 k x hx
   ·obtain⟨x,hx⟩:=Qil hl hc;exact ih k x c hx hc (h2 k x hx)
 | none ys =>
  intro u h;cases h;exact .opt _ _ _ (fun _=>rfl) (fun h=>nomatch h)
 | opt xs ys hl _ ih =>
  intro u h;refine .opt _ _ _ (fun h=>nomatch h) (fun _=>?_);cases h with
  | ep _ b off us h1 h2 =>
   refine .ep _ b off us (fun k c hc=>?_) (fun k c hc=>?_)
   ·obtain⟨x,hx⟩:=Qil hl hc;exact h1 k x hx
   ·obtain⟨x,hx⟩:=Qil hl hc;exact ih k x c hx hc (h2 k x hx)
def LeL(xs ys:List V):Prop:=xs.length=ys.length∧∀ (j:Nat) x y,xs[j]? = some x→ys[j]? = some y→LeV x y
theorem LeL.refl(xs:List V):LeL xs xs:=⟨rfl,fun j x y hx hy=>by rw[hx] at hy; cases hy; exact .refl x⟩
theorem LeL.nil:LeL [] [] :=.refl _
theorem LeL.cons{x y:V}{xs ys:List V}(h:LeV x y)(k:LeL xs ys):LeL (x::xs) (y::ys):=by
 refine⟨by simp[k.1],fun j a b ha hb=>?_⟩;cases j with
 | zero=>simp at ha hb; subst ha; subst hb; exact h
 | succ j=>exact k.2 j a b ha hb
def LeLL(es es' : List (List V)):Prop:=es.length=es'.length∧∀ (i:Nat) e e', es[i]? = some e→es'[i]? = some e' → LeL e e'
theorem LeLL.refl(es:List (List V)):LeLL es es:=⟨rfl,fun i e e' h h' => by rw[h] at h'; cases h'; exact .refl e⟩
theorem LeLL.nil:LeLL [] [] :=.refl _
theorem LeLL.cons{x y:List V}{xs ys:List (List V)}(h:LeL x y)(k:LeLL xs ys):LeLL (x::xs) (y::ys):=by
 refine⟨by simp[k.1],fun j a b ha hb=>?_⟩;cases j with
 | zero=>simp at ha hb; subst ha; subst hb; exact h
 | succ j=>exact k.2 j a b ha hb
theorem LeLL.app{a a' b b' : List (List V)}(h:LeLL a a')(k:LeLL b b'):LeLL (a++b) (a' ++ b'):=by
 refine⟨by simp[h.1,k.1],fun i e e' he he' => ?_⟩;by_cases hi:i<a.length
 ·rw[List.getElem?_append_left hi] at he;rw[List.getElem?_append_left (by rw[← h.1]; exact hi)] at he';exact h.2 i e e' he he'
 ·rw[List.getElem?_append_right (by omega)] at he;rw[List.getElem?_append_right (by rw[← h.1]; omega),← h.1] at he';exact k.2 _ e e' he he'
theorem LeV.agg'{xs ys:List V}(h:LeL xs ys):LeV (.agg xs) (.agg ys) :=.agg _ _ h.1 h.2
theorem LeV.sl'{f f' : Bool}{es es' : List (List V)}(hf:f' = true→f=true)(h:LeLL es es'):LeV (.sl f es) (.sl f' es') :=
 .sl _ _ _ _ hf h.1 (fun i e e' he he' => (h.2 i e e' he he').1) (fun i e e' he he' => (h.2 i e e' he he').2)
theorem LeV.no{f:Bool}{es es' : List (List V)}(h:LeLL es es'):LeV (.sl f es) (.sl false es') :=.sl' (fun h=>nomatch h) h
theorem LeV.not{f:Bool}{es:List (List V)}:LeV (.sl f es) (.sl false es) :=.no (.refl es)
inductive LeD:D→D→Prop where
 | refl (d:D):LeD d d
 | p {x y:V}:LeV x y→LeD (.p x) (.p y)
 | own {t e size:Nat} {es es' : List (List V)}:LeLL es es' → LeD (.own t e size es) (.own t e size es')
 | drop {t e size:Nat} {f:Bool} {es es' : List (List V)}:f=false→LeLL es es' → LeD (.own t e size es) (.p (.sl f es'))
 | tup {xs ys:List V}:LeL xs ys→LeD (.tup (xs.map .p)) (.tup (ys.map .p))
theorem LeD.eq{x y:D}(h:x=y):LeD x y:=h ▸ .refl x
theorem DRel.le{G:Gh}{w:World}{d d' : D}{u:Value}(h:DRel G w d u)(k:LeD d d'):DRel G w d' u:=by
 cases k with
 | refl=>exact h
 | p k=>cases h with | p _ _ h=>exact .p _ _ (h.le k)
 | @own t e size es es' k =>
  cases h with
  | own _ _ _ _ _ T h1 h2 h3 h0 h4 h5 =>
   refine .own t e size es' u T (h1.le (.no k)) (fun x hx=>?_) h3 h0 (by rw[← k.1]; exact h4) (by rw[← k.1]; exact h5);obtain⟨i,hi⟩:=List.getElem?_of_mem hx;obtain⟨y,hy⟩:=Qil k.1 hi;rw[← (k.2 i y x hy hi).1];exact h2 y (List.mem_of_getElem? hy)
 | drop hf k=>cases h with | own _ _ _ _ _ T h1=>subst hf; exact .p _ _ (h1.le (.no k))
 | @tup xs ys k =>
  cases h with
  | tup _ us h1 h2 =>
   refine .tup _ _ (by simpa [k.1] using h1) (fun j c u hc hu=>?_);rw[List.getElem?_map] at hc;obtain⟨y,hy,rfl⟩:=Option.map_eq_some_iff.1 hc;obtain⟨x,hx⟩:=Qil k.1 hy;have:=h2 j (.p x) u (by rw[List.getElem?_map,hx]; rfl) hu;cases this with | p _ _ h=>exact .p _ _ (h.le (k.2 j x y hx hy))
def Qaay:Op→Bool
 | .call c=>match c.callee with | .builtin .len=>true | .builtin .append=>true | _=>false
 | .slice _ _ _ _ _=>true
 | .convert _ _ _=>true
 | _=>false
def vw(o:Op)(K:D→S→Prop)(d:D)(s:S):Prop:=match Qaay o with
 | true=>∃ d' live,LeD d d' ∧ live=s.live∧K d' ⟨s.heap,live⟩
 | false=>K d s
section
variable {P:Program} {tb:Tbl}
def Qsm(gn:Bool)(P:Program)(tb:Tbl)(o:Op)(e:Operand→Option D)(s:S)(K:D→S→Prop):Prop:=Qgk gn P tb o e s (vw o K)
theorem Qek(a:Act)(dst:Option Nat)(u:Value):(a.put dst u).defers=a.defers:=by cases dst<;>rfl
theorem Q8u(hT:TblOk P tb){rd:Option Nat}{gn:Bool}{N:Nat}{G:Gh}{σ : St}{a:Act}{w:World}(hR:Rel N G σ a w){o:Oper}{K:D→S→Prop}(h:Qsm gn P tb o.op (ev σ.env) σ.s K)
  {next:Act→World→Prop} {Q:Exit→Act→World→Prop} (hn:∀ u w' G' d s', Stp G w G' w' → Inv G' s' w' → DRel G' w' d u→K d s' → next (a.put o.dst u) w'):o.wpIn (FW rd) 0 P a w next Q:=by
 refine Q8o hT hR h fun u w' G' d s' h1 h2 h3 h4=>?_
 unfold vw at h4;split at h4
 ·obtain⟨d', live,hd,rfl,hk⟩:=h4;exact hn u w' G' d' s' h1 h2 (h3.le hd) hk
 ·exact hn u w' G' d s' h1 h2 h3 h4
theorem Qaek{P:Program}(o:Op)(e:Operand→Option D):Loc (Qsl o) fun s K=>Qsm false P tb o e s K:=by
 intro s K h;obtain⟨d,s1,h1,h2,h3,h4⟩:=Qaeh (tb:=tb) o e s _ h;cases hv:Qaay o with
 | false =>
  have e:∀ K d s,vw o K d s=K d s:=fun K d s=>by unfold vw; rw[hv]
  rw[e] at h1;refine⟨d,s1,h1,h2,h3,fun s' K' e1 e2 hk=>h4 s' _ e1 e2 ?_⟩;rw[e]; exact hk
 | true =>
  have e:∀ K d (s:S),vw o K d s=∃ d' live,LeD d d' ∧ live=s.live∧K d' ⟨s.heap,live⟩:=fun K d s=>by unfold vw; rw[hv]
  rw[e] at h1;obtain⟨d', live,hd,rfl,hk⟩:=h1;refine⟨d', s1,hk,h2,h3,fun s' K' e1 e2 hk' => h4 s' _ e1 e2 ?_⟩;rw[e]; exact⟨d', _,hd,rfl,hk'⟩
theorem Q8v{gn:Bool}(o:Op){e e' : Operand→Option D}(h:∀ x ∈ o.operands.toList,e x=e' x)(s:S)(K:D→S→Prop):Qsm gn P tb o e s K=Qsm gn P tb o e' s K:=Q8r o h s _
def bOne(gn:Bool)(P:Program)(tb:Tbl)(N:Nat)(ops:List Oper)(i:Nat)(σ : St)(K:St→Prop):Prop :=
 match ops[i]? with
 | none=>K σ
 | some o=>match Q2t ops σ.env o.guard with
  | some true=>Qsm gn P tb o.op (ev σ.env) σ.s fun d s' => Qw3 (Q8p ops i) d fun d=>putE N σ.env o.dst d fun env' => K ⟨env', s'⟩
  | some false=>putE N σ.env o.dst .undef fun env' => K ⟨env', σ.s⟩
  | none=>False
def bOps(gn:Bool)(P:Program)(tb:Tbl)(N:Nat)(ops:List Oper):List Nat→St→(St→Prop)→Prop
 | [],σ,K=>K σ
 | i::r,σ,K=>bOne gn P tb N ops i σ fun σ' => bOps gn P tb N ops r σ' K
theorem Qh3(hT:TblOk P tb){rd:Option Nat}{gn:Bool}{N:Nat}{G:Gh}{σ : St}{a:Act}{w:World}(hR:Rel N G σ a w){ops:List Oper}{i:Nat}{K:St→Prop}(h:bOne gn P tb N ops i σ K)
  {next:Act→World→Prop} {Q:Exit→Act→World→Prop} (hn:∀ a' w' G' σ', Stp G w G' w' → Rel N G' σ' a' w' → a'.defers=a.defers→K σ' → next a' w'):wpOpIn (FW rd) 0 P ops.toArray Q i next a w:=by
 unfold bOne at h;unfold wpOpIn;split at h
 ·rename_i ho;simp only[List.getElem?_toArray,ho];exact hn a w G σ (.refl G w) hR rfl h
 ·rename_i o ho;simp only[List.getElem?_toArray,ho];split at h
  ·rename_i hw;rw[if_pos (Qn2 hR ops o true hw)];refine Q8u hT hR h fun u w' G' d s' r1 r2 r3 r4=>?_
   obtain⟨env', q1,q2⟩:=Qrz hR r1 r2 r3 (Qty r4);exact hn _ _ _ _ r1 q1 (Qek _ _ _) q2
  ·rename_i hw;rw[if_neg (by rw[Qn2 hR ops o false hw]; simp)];refine⟨fun f _=>Qyp _ _,?_⟩;obtain⟨env', q1,q2⟩:=Qrz hR (.refl G w) hR.inv .undef h;exact hn _ _ _ _ (.refl G w) q1 (Qek _ _ _) q2
  ·exact h.elim
theorem Qv8(hT:TblOk P tb){rd:Option Nat}{gn:Bool}{N:Nat}{ops:List Oper}{Q:Exit→Act→World→Prop}{K:St→Prop}{B:Nat×Nat}{G0:Gh}{w0:World}{ds:List Deferred}(hQ:∀ a w G σ,Ex B G0 w0 G w→Rel N G σ a w→a.defers=ds→K σ → Q .normal a w) :
  ∀ (l:List Nat) (σ : St) (a:Act) (w:World) (G:Gh),Ex B G0 w0 G w→Rel N G σ a w→a.defers=ds→bOps gn P tb N ops l σ K→wpOpsIn (FW rd) 0 P ops.toArray Q l a w
 | [],σ,a,w,G,hE,hR,hd,h=>hQ a w G σ hE hR hd h
 | i::r,σ,a,w,G,hE,hR,hd,h=>by
  rw[wpOpsIn_cons];exact Qh3 hT hR h fun a' w' G' σ' s1 r1 d1 h1=>Qv8 hT hQ r σ' a' w' G' (hE.trans (s1.ex B)) r1 (d1.trans hd) h1
end
def D.ren1(I J:List Nat):D→D
 | .ptr i o =>.ptr (I.getD i 0) o
 | .own t e s es =>.own (J.getD t 0) e s es
 | .yld P t xs =>.yld P (J.getD t 0) xs
 | .sp P u b i o =>.sp P u b (I.getD i 0) o
 | .x t v X =>.x (J.getD t 0) v X
 | .mh i =>.mh (I.getD i 0)
 | d=>d
def D.renF(I J:List Nat):D→D
 | .fn f a b =>.fn f (a.map (D.ren1 I J)) (b.map (D.ren1 I J))
 | d=>D.ren1 I J d
def D.ren(I J:List Nat):D→D
 | .fn f a b =>.fn f (a.map (D.ren1 I J)) (b.map (D.ren1 I J))
 | .agg a =>.agg (a.map (D.ren1 I J))
 | .tup a =>.tup (a.map (D.ren1 I J))
 | .sf a =>.sf (a.map (D.renF I J))
 | .ef d =>.ef (D.renF I J d)
 | d=>D.ren1 I J d
def tok0:Tok:=⟨0,none,0,none⟩
def Gh.sub(G:Gh)(I J:List Nat):Gh:=⟨G.com,I.map (G.name.getD · 0),J.map (G.tok.getD · tok0)⟩
def updL{α : Type}:List α → List Nat→List α → List α
 | H,i::I,n::N=>updL (H.set i n) I N
 | H,_,_=>H
theorem Quz{α : Type}:∀ (I:List Nat) (N H:List α),(updL H I N).length=H.length
 | [],N,H=>by cases N<;>rfl
 | i::I,[],H=>rfl
 | i::I,n::N,H=>by rw[updL,Quz I N]; simp
theorem Qx0{α : Type}:∀ (I:List Nat) (N H:List α) (i:Nat),i ∉ I→(updL H I N)[i]? = H[i]?
 | [],N,H,i,_=>by cases N<;>rfl
 | k::I,[],H,i,_=>rfl
 | k::I,n::N,H,i,h=>by
  rw[updL,Qx0 I N _ i (fun hm=>h (by simp[hm])),List.getElem?_set_ne (fun e=>h (by simp[e]))]
theorem Q8w{α : Type}:∀ (I:List Nat) (N H:List α) (k i:Nat) (n : α),I.Nodup→(∀ x ∈ I,x<H.length)→I[k]? = some i→N[k]? = some n→(updL H I N)[i]? = some n
 | [],N,H,k,i,n,_,_,hi,_=>by simp at hi
 | x::I,[],H,k,i,n,_,_,_,hn=>by simp at hn
 | x::I,m::N,H,k,i,n,hd,hl,hi,hn=>by
  rw[updL];cases k with
  | zero =>
   simp at hi hn;subst hi; subst hn;rw[Qx0 I N _ x (List.nodup_cons.1 hd).1,List.getElem?_set_self (hl x (by simp))]
  | succ k=>exact Q8w I N _ k i n (List.nodup_cons.1 hd).2 (fun y hy=>by simpa using hl y (by simp[hy])) (by simpa using hi) (by simpa using hn)
theorem Qu0{α : Type}{l:List α}(h:l.Nodup){i j:Nat}{x : α}(hi:l[i]? = some x)(hj:l[j]? = some x):i=j:=by
 obtain⟨li,ei⟩:=List.getElem?_eq_some_iff.1 hi;obtain⟨lj,ej⟩:=List.getElem?_eq_some_iff.1 hj;have hp:=List.pairwise_iff_getElem.1 h;rcases Nat.lt_trichotomy i j with h1 | h1 | h1
 ·exact absurd (ei.trans ej.symm) (hp i j li lj h1)
 ·exact h1
 ·exact absurd (ej.trans ei.symm) (hp j i lj li h1)
theorem Qahm{α : Type}{l:List α}(h:∀ (i j:Nat) x,l[i]? = some x→l[j]? = some x→i=j):l.Nodup:=by
 refine List.pairwise_iff_getElem.2 fun i j hi hj hlt he=>?_
 have:=h i j l[i] (List.getElem?_eq_getElem hi) (by rw[he]; exact List.getElem?_eq_getElem hj);omega
theorem Qamx{α : Type}{l:List α}{i:Nat}{x d : α}(h:l[i]? = some x):l.getD i d=x:=by simp[List.getD,h]
theorem Qb4{α : Type}{l:List α}{i:Nat}(h:i<l.length)(d : α):l[i]? = some (l.getD i d):=by simp[List.getD,h]
section
variable {I J:List Nat}
theorem Qoo{G:Gh}{k i:Nat}(h:I[k]? = some i)(hi:i<G.name.length):(G.sub I J).name[k]? = G.name[i]? := by
 show(I.map (G.name.getD · 0))[k]? = _;rw[List.getElem?_map,h,Qb4 hi 0]; rfl
theorem Qqf{G:Gh}{k i:Nat}(h:J[k]? = some i)(hi:i<G.tok.length):(G.sub I J).tok[k]? = G.tok[i]? := by
 show(J.map (G.tok.getD · tok0))[k]? = _;rw[List.getElem?_map,h,Qb4 hi tok0]; rfl
theorem Qdv{G:Gh}{w:World}{d:D}{u:Value}(hI:∀ i ∈ I,i<G.name.length)(hJ:∀ j ∈ J,j<G.tok.length)(hl:d.lt1 I.length J.length=true)(h:DRel G w (d.ren1 I J) u):DRel (G.sub I J) w d u:=by
 cases d with
 | p x=>cases h with | p _ _ h=>exact .p _ _ h
 | undef=>cases h; exact .undef
 | ptr nm off =>
  have hn:nm<I.length:=of_decide_eq_true hl;have hg:=Qb4 hn 0;cases h with
  | ptr _ _ b hb=>exact .ptr _ _ b (by rw[Qoo hg (hI _ (List.mem_of_getElem? hg))]; exact hb)
 | own t e s es =>
  have hn:t<J.length:=of_decide_eq_true hl;have hg:=Qb4 hn 0;cases h with
  | own _ _ _ _ _ T h1 h2 h3 h0 h4 h5 =>
   have e1:=Qqf (I:=I) hg (hJ _ (List.mem_of_getElem? hg));refine .own _ _ _ _ _ T h1 h2 (by rw[e1]; exact h3) h0 h4 fun he=>?_
   obtain⟨a,cap,rfl,h6⟩:=h5 he;refine⟨a,cap,rfl,h6.imp id (Or.imp_left ?_)⟩;rintro ⟨b,us,T2,ha,g1,g⟩;exact⟨b,us,T2,ha,by rw[e1]; exact g1,g⟩
 | yld P t xs =>
  have hn:t<J.length:=of_decide_eq_true hl;have hg:=Qb4 hn 0;have e1:=Qqf (I:=I) hg (hJ _ (List.mem_of_getElem? hg));cases h with
  | yld _ T p h1 h2=>exact .yld t T p (by rw[e1]; exact h1) h2
 | sp P u b nm off =>
  have hn:nm<I.length:=of_decide_eq_true hl;have hg:=Qb4 hn 0;cases h with
  | sp _ _ _ _ _ i e n _ h1 h2 h3 h4 h5 h6=>exact .sp _ _ _ _ _ i e n _ (by rw[Qoo hg (hI _ (List.mem_of_getElem? hg))]; exact h1) h2 h3 h4 h5 h6
 | x t v X =>
  have hn:t<J.length:=of_decide_eq_true hl;have hg:=Qb4 hn 0;have e1:=Qqf (I:=I) hg (hJ _ (List.mem_of_getElem? hg));cases h with
  | x _ _ _ _ T h1 h0 h2 h3 h4=>exact .x t v X _ T (by rw[e1]; exact h1) h0 h2 h3 h4
 | mh nm =>
  have hn:nm<I.length:=of_decide_eq_true hl;have hg:=Qb4 hn 0;cases h with
  | mh _ b hb=>exact .mh _ b (by rw[Qoo hg (hI _ (List.mem_of_getElem? hg))]; exact hb)
 | fn f a b=>cases hl
 | agg a=>cases hl
 | tup a=>cases hl
 | sf a=>cases hl
 | ef d=>cases hl
theorem Qaaz{G:Gh}{w:World}{d:D}{u:Value}(hI:∀ i ∈ I,i<G.name.length)(hJ:∀ j ∈ J,j<G.tok.length)(hl:d.ltF I.length J.length=true)(h:DRel G w (d.renF I J) u):DRel (G.sub I J) w d u:=by
 have key:∀ {l:List D},l.all (D.lt1 I.length J.length)=true→∀ {us:Array Value},(∀ (j:Nat) c u,(l.map (D.ren1 I J))[j]? = some c→us[j]? = some u→DRel G w c u)→∀ (j:Nat) c u,l[j]? = some c→us[j]? = some u→DRel (G.sub I J) w c u:=fun {l} hl us hr j c u hc hu=>by
  rw[List.all_eq_true] at hl;exact Qdv hI hJ (hl c (List.mem_of_getElem? hc)) (hr j _ u (by rw[List.getElem?_map,hc]; rfl) hu)
 cases d with
 | p x=>exact Qdv hI hJ hl h
 | undef=>exact Qdv hI hJ hl h
 | ptr nm off=>exact Qdv hI hJ hl h
 | own t e s es=>exact Qdv hI hJ hl h
 | yld P t xs=>exact Qdv hI hJ hl h
 | sp P u b nm off=>exact Qdv hI hJ hl h
 | x t v X=>exact Qdv hI hJ hl h
 | mh nm=>exact Qdv hI hJ hl h
 | fn f a b =>
  simp only[D.ltF,Bool.and_eq_true] at hl;cases h with
  | fn _ _ _ us vs h1 h2 h3 h4=>exact .fn _ _ _ us vs (by simpa using h1) (by simpa using h2) (key hl.1 h3) (key hl.2 h4)
 | agg a=>cases hl
 | tup a=>cases hl
 | sf a=>cases hl
 | ef d=>cases hl
theorem Q20{G:Gh}{w:World}{d:D}{u:Value}(hI:∀ i ∈ I,i<G.name.length)(hJ:∀ j ∈ J,j<G.tok.length)(hl:d.lt I.length J.length=true)(h:DRel G w (d.ren I J) u):DRel (G.sub I J) w d u:=by
 have key:∀ {l:List D},l.all (D.lt1 I.length J.length)=true→∀ {us:Array Value},(∀ (j:Nat) c u,(l.map (D.ren1 I J))[j]? = some c→us[j]? = some u→DRel G w c u)→∀ (j:Nat) c u,l[j]? = some c→us[j]? = some u→DRel (G.sub I J) w c u:=fun {l} hl us hr j c u hc hu=>by
  rw[List.all_eq_true] at hl;exact Qdv hI hJ (hl c (List.mem_of_getElem? hc)) (hr j _ u (by rw[List.getElem?_map,hc]; rfl) hu)
 cases d with
 | p x=>exact Qdv hI hJ hl h
 | undef=>exact Qdv hI hJ hl h
 | ptr nm off=>exact Qdv hI hJ hl h
 | own t e s es=>exact Qdv hI hJ hl h
 | yld P t xs=>exact Qdv hI hJ hl h
 | sp P u b nm off=>exact Qdv hI hJ hl h
 | x t v X=>exact Qdv hI hJ hl h
 | mh nm=>exact Qdv hI hJ hl h
 | fn f a b =>
  simp only[D.lt,Bool.and_eq_true] at hl;cases h with
  | fn _ _ _ us vs h1 h2 h3 h4=>exact .fn _ _ _ us vs (by simpa using h1) (by simpa using h2) (key hl.1 h3) (key hl.2 h4)
 | agg a=>cases h with | agg _ us h1 h2 h3=>exact .agg _ us (by simpa using h1) (fun j c u hc hu=>h2 j _ u (by rw[List.getElem?_map,hc]; rfl) hu) (key hl h3)
 | tup a=>cases h with | tup _ us h1 h3=>exact .tup _ us (by simpa using h1) (key hl h3)
 | sf a =>
  simp only[D.lt,List.all_eq_true] at hl;have hm:∀ (i:Nat) d,a[i]? = some d→(a.map (D.renF I J))[i]? = some (D.renF I J d):=fun i d hd=>by rw[List.getElem?_map,hd]; rfl
  generalize hv:D.ren I J (.sf a)=y at h;cases h with
  | sf ds b us h1 h2 =>
   cases hv;rw[List.length_map];exact .sf a b us (fun i d hd=>h1 i _ (hm i d hd)) (fun i d hd=>Qaaz hI hJ (hl d (List.mem_of_getElem? hd)) (h2 i _ (hm i d hd)))
  | _=>cases hv
 | ef d=>cases h with | ef _ b off u h1 h2 h3=>exact .ef _ b off u h1 h2 (Qaaz hI hJ hl h3)
def Gh.back(G Gs:Gh)(J:List Nat):Gh:=⟨Gs.com,G.name,updL G.tok J Gs.tok++Gs.tok.drop J.length⟩
def Qqg(J:List Nat)(n m:Nat):List Nat:=J++(List.range (m-J.length)).map (· + n)
theorem Qdw{Gs:Gh}{nm:List Nat}{tk:List Tok}{w:World}{d:D}{u:Value}(hN:∀ (k i:Nat),I[k]? = some i→Gs.name[k]? = nm[i]?)(hT:∀ (k j:Nat),J[k]? = some j→Gs.tok[k]? = tk[j]?)(hl:d.lt1 I.length J.length=true)(h:DRel Gs w d u):DRel ⟨Gs.com,nm,tk⟩ w (d.ren1 I J) u:=by
 cases d with
 | p x=>cases h with | p _ _ h=>exact .p _ _ h
 | undef=>cases h; exact .undef
 | ptr n0 off =>
  have hg:=Qb4 (show n0<I.length from of_decide_eq_true hl) 0;cases h with
  | ptr _ _ b hb=>exact .ptr _ _ b (by rw[hN _ _ hg] at hb; exact hb)
 | own t e s es =>
  have hg:=Qb4 (show t<J.length from of_decide_eq_true hl) 0;cases h with
  | own _ _ _ _ _ T h1 h2 h3 h0 h4 h5 =>
   refine .own _ _ _ _ _ T h1 h2 (by rw[← hT _ _ hg]; exact h3) h0 h4 fun he=>?_
   obtain⟨a,cap,rfl,h6⟩:=h5 he;refine⟨a,cap,rfl,h6.imp id (Or.imp_left ?_)⟩;rintro ⟨b,us,T2,ha,g1,g⟩;exact⟨b,us,T2,ha,by rw[← hT _ _ hg]; exact g1,g⟩
 | yld P t xs =>
  have hg:=Qb4 (show t<J.length from of_decide_eq_true hl) 0;cases h with
  | yld _ T p h1 h2=>exact .yld _ T p (by rw[← hT _ _ hg]; exact h1) h2
 | sp P u b n0 off =>
  have hg:=Qb4 (show n0<I.length from of_decide_eq_true hl) 0;cases h with
  | sp _ _ _ _ _ i e n _ h1 h2 h3 h4 h5 h6=>exact .sp _ _ _ _ _ i e n _ (by rw[hN _ _ hg] at h1; exact h1) h2 h3 h4 h5 h6
 | x t v X =>
  have hg:=Qb4 (show t<J.length from of_decide_eq_true hl) 0;cases h with
  | x _ _ _ _ T h1 h0 h2 h3 h4=>exact .x _ v X _ T (by rw[← hT _ _ hg]; exact h1) h0 h2 h3 h4
 | mh n0 =>
  have hg:=Qb4 (show n0<I.length from of_decide_eq_true hl) 0;cases h with
  | mh _ b hb=>exact .mh _ b (by rw[hN _ _ hg] at hb; exact hb)
 | fn f a b=>cases hl
 | agg a=>cases hl
 | tup a=>cases hl
 | sf a=>cases hl
 | ef d=>cases hl
theorem Qaa0{Gs:Gh}{nm:List Nat}{tk:List Tok}{w:World}{d:D}{u:Value}(hN:∀ (k i:Nat),I[k]? = some i→Gs.name[k]? = nm[i]?)(hT:∀ (k j:Nat),J[k]? = some j→Gs.tok[k]? = tk[j]?)(hl:d.ltF I.length J.length=true)(h:DRel Gs w d u):DRel ⟨Gs.com,nm,tk⟩ w (d.renF I J) u:=by
 have key:∀ {l:List D},l.all (D.lt1 I.length J.length)=true→∀ {us:Array Value},(∀ (j:Nat) c u,l[j]? = some c→us[j]? = some u→DRel Gs w c u)→∀ (j:Nat) c u,(l.map (D.ren1 I J))[j]? = some c→us[j]? = some u→DRel ⟨Gs.com,nm,tk⟩ w c u:=fun {l} hl us hr j c u hc hu=>by
  rw[List.all_eq_true] at hl;rw[List.getElem?_map] at hc;obtain⟨c', hc', rfl⟩:=Option.map_eq_some_iff.1 hc;exact Qdw hN hT (hl c' (List.mem_of_getElem? hc')) (hr j c' u hc' hu)
 cases d with
 | p x=>exact Qdw (d :=.p x) hN hT hl h
 | undef=>exact Qdw (d :=.undef) hN hT hl h
 | ptr n off=>exact Qdw (d :=.ptr n off) hN hT hl h
 | own t e s es=>exact Qdw (d :=.own t e s es) hN hT hl h
 | yld P t xs=>exact Qdw (d :=.yld P t xs) hN hT hl h
 | sp P u b n off=>exact Qdw (d :=.sp P u b n off) hN hT hl h
 | x t v X=>exact Qdw (d :=.x t v X) hN hT hl h
 | mh n=>exact Qdw (d :=.mh n) hN hT hl h
 | fn f a b =>
  simp only[D.ltF,Bool.and_eq_true] at hl;cases h with
  | fn _ _ _ us vs h1 h2 h3 h4=>exact .fn _ _ _ us vs (by simpa using h1) (by simpa using h2) (key hl.1 h3) (key hl.2 h4)
 | agg a=>cases hl
 | tup a=>cases hl
 | sf a=>cases hl
 | ef d=>cases hl
theorem Qael{Gs:Gh}{nm:List Nat}{tk:List Tok}{w:World}{d:D}{u:Value}(hN:∀ (k i:Nat),I[k]? = some i→Gs.name[k]? = nm[i]?)(hT:∀ (k j:Nat),J[k]? = some j→Gs.tok[k]? = tk[j]?)(hl:d.lt I.length J.length=true)(h:DRel Gs w d u):DRel ⟨Gs.com,nm,tk⟩ w (d.ren I J) u:=by
 have key:∀ {l:List D},l.all (D.lt1 I.length J.length)=true→∀ {us:Array Value},(∀ (j:Nat) c u,l[j]? = some c→us[j]? = some u→DRel Gs w c u)→∀ (j:Nat) c u,(l.map (D.ren1 I J))[j]? = some c→us[j]? = some u→DRel ⟨Gs.com,nm,tk⟩ w c u:=fun {l} hl us hr j c u hc hu=>by
  rw[List.all_eq_true] at hl;rw[List.getElem?_map] at hc;obtain⟨c', hc', rfl⟩:=Option.map_eq_some_iff.1 hc;exact Qdw hN hT (hl c' (List.mem_of_getElem? hc')) (hr j c' u hc' hu)
 cases d with
 | p x=>exact Qdw (d :=.p x) hN hT hl h
 | undef=>exact Qdw (d :=.undef) hN hT hl h
 | ptr n off=>exact Qdw (d :=.ptr n off) hN hT hl h
 | own t e s es=>exact Qdw (d :=.own t e s es) hN hT hl h
 | yld P t xs=>exact Qdw (d :=.yld P t xs) hN hT hl h
 | sp P u b n off=>exact Qdw (d :=.sp P u b n off) hN hT hl h
 | x t v X=>exact Qdw (d :=.x t v X) hN hT hl h
 | mh n=>exact Qdw (d :=.mh n) hN hT hl h
 | fn f a b =>
  simp only[D.lt,Bool.and_eq_true] at hl;cases h with
  | fn _ _ _ us vs h1 h2 h3 h4=>exact .fn _ _ _ us vs (by simpa using h1) (by simpa using h2) (key hl.1 h3) (key hl.2 h4)
 | agg a =>
  cases h with
  | agg _ us h1 h2 h3 =>
   refine .agg _ us (by simpa using h1) (fun j c u hc hu=>?_) (key hl h3);rw[List.getElem?_map] at hc;obtain⟨c', hc', rfl⟩:=Option.map_eq_some_iff.1 hc;exact h2 j c' u hc' hu
 | tup a=>cases h with | tup _ us h1 h3=>exact .tup _ us (by simpa using h1) (key hl h3)
 | sf a =>
  simp only[D.lt,List.all_eq_true] at hl;cases h with
  | sf _ b us h1 h2 =>
   rw[show a.length=(a.map (D.renF I J)).length by simp];refine .sf _ b us (fun i d hd=>?_) (fun i d hd=>?_)
   all_goals
    rw[List.getElem?_map] at hd;obtain⟨c', hc', rfl⟩:=Option.map_eq_some_iff.1 hd
   ·exact h1 i c' hc'
   ·exact Qaa0 hN hT (hl c' (List.mem_of_getElem? hc')) (h2 i c' hc')
 | ef d=>cases h with | ef _ b off u h1 h2 h3=>exact .ef _ b off u h1 h2 (Qaa0 hN hT hl h3)
theorem Qale{d:D}{x:V}(h:d.ren1 I J = .p x):d = .p x:=by cases d<;>first | exact h | cases h
theorem Q8x{α β : Type}{f : α → β}{l:List α}{y : β}(h:l.map f=[y]):∃ x,l=[x]∧f x=y:=by
 cases l with
 | nil=>cases h
 | cons x r =>
  rw[List.map_cons] at h;injection h with h1 h2
  cases r with
  | nil=>exact⟨x,rfl,h1⟩
  | cons z q=>cases h2
theorem Qajx{cs:List D}{x:V}(h:cs.map (D.ren I J)=[.tup [.p x]]):cs=[.tup [.p x]]:=by
 obtain⟨c,rfl,h1⟩:=Q8x h;cases c with
 | tup a =>
  have h2:D.tup (a.map (D.ren1 I J)) = .tup [.p x]:=h1;injection h2 with h3
  obtain⟨d,rfl,h4⟩:=Q8x h3;rw[Qale h4]
 | _=>cases h1
theorem Qhh{α : Type}{l:List α}{I:List Nat}{d x : α}(hI:∀ i ∈ I,i<l.length)(h:x ∈ I.map (l.getD · d)):x ∈ l:=by
 obtain⟨i,hi,rfl⟩:=List.mem_map.1 h;exact List.mem_of_getElem? (Qb4 (hI i hi) d)
theorem Inv.sub{G:Gh}{H:List (List D)}{L:List Nat}{hs:List (List D)}{lv:List Nat}{w:World}(h:Inv G ⟨H,L⟩ w)(nI:I.Nodup)(nJ:J.Nodup)(hI:∀ i ∈ I,i<H.length)(hJ:∀ j ∈ J,j<L.length)
  (eH:I.map (H.getD · [])=hs.map fun cs=>cs.map (D.ren I J)) (eL:J.map (L.getD · 0)=lv) (hlt:hs.all (fun cs=>cs.all (D.lt I.length J.length))=true):Inv (G.sub I J) ⟨hs,lv⟩ w:=by
 have hN:G.name.length=H.length:=h.names;have hT:G.tok.length=L.length:=by have:=congrArg List.length h.live; simpa using this
 have hI' : ∀ i ∈ I,i<G.name.length:=fun i hi=>by rw[hN]; exact hI i hi
 have hJ' : ∀ j ∈ J,j<G.tok.length:=fun j hj=>by rw[hT]; exact hJ j hj
 have hlen:hs.length=I.length:=by have:=congrArg List.length eH; simpa using this.symm
 refine⟨fun b o hc=>?_,?_,?_,fun k b cs hb hcs=>?_,?_,fun t T b ht hb=>?_,fun T hT' => h.pro T (Qhh hJ' hT'),h.glob⟩
 ·obtain⟨h1,h2,h3⟩:=h.com b o hc;exact⟨h1,fun hm=>h2 (Qhh hI' hm),fun T hT' => h3 T (Qhh hJ' hT')⟩
 ·show(I.map _).length=hs.length;rw[hlen]; simp
 ·show(I.map (G.name.getD · 0)).Nodup;refine Qahm fun a b x ha hb=>?_
  rw[List.getElem?_map] at ha hb;obtain⟨i,hi,rfl⟩:=Option.map_eq_some_iff.1 ha;obtain⟨j,hj,he⟩:=Option.map_eq_some_iff.1 hb;have g1:=Qb4 (hI' _ (List.mem_of_getElem? hi)) 0;have g2:=Qb4 (hI' _ (List.mem_of_getElem? hj)) 0;rw[he] at g2;have hii:=Qu0 h.nodup g1 g2;subst hii;exact Qu0 nI hi hj
 ·have hk:k<I.length:=by rw[← hlen]; exact(List.getElem?_eq_some_iff.1 hcs).1
  have hg:=Qb4 hk 0;have hil:=hI _ (List.mem_of_getElem? hg);rw[Qoo hg (by rw[hN]; exact hil)] at hb;have e:=congrArg (·[k]?) eH;simp only[List.getElem?_map,hg,hcs,Option.map_some,Option.some.injEq] at e;have hH:=Qb4 hil [];rw[e] at hH;cases h.var _ b _ hb hH with
  | map fl ms es clock h1 h2 h3=>exact .map fl ms es clock (Qajx h1) h2 h3
  | cells us ty h1 h2 h3 =>
  refine .cells us ty h1 (by rw[h2]; simp) fun j c u hc hu=>?_
  obtain⟨g1,g2⟩:=h3 j (c.ren I J) u (by rw[List.getElem?_map,hc]; rfl) hu;rw[List.all_eq_true] at hlt;have hl:=hlt cs (List.mem_of_getElem? hcs);rw[List.all_eq_true] at hl;exact⟨g1,Q20 hI' hJ' (hl c (List.mem_of_getElem? hc)) g2⟩
 ·show(J.map (G.tok.getD · tok0)).map (·.len)=lv;rw[← eL,List.map_map];refine List.map_congr_left fun j hj=>?_
  have g1:=Qb4 (hJ' j hj) tok0;have e:=congrArg (·[j]?) h.live;simp only[List.getElem?_map,g1,Option.map_some] at e;show(G.tok.getD j tok0).len=L.getD j 0;exact(Qamx e.symm).symm
 ·have htl:t<J.length:=by have:=(List.getElem?_eq_some_iff.1 ht).1; simpa [Gh.sub] using this
  have hg:=Qb4 htl 0;rw[Qqf hg (hJ' _ (List.mem_of_getElem? hg))] at ht;obtain⟨h1,h2,h3⟩:=h.tok _ T b ht hb;refine⟨h1,fun hm=>h2 (Qhh hI' hm),fun t' T' ht' hb' => ?_⟩;have htl' : t' < J.length:=by have:=(List.getElem?_eq_some_iff.1 ht').1; simpa [Gh.sub] using this
  have hg' := Qb4 htl' 0;rw[Qqf hg' (hJ' _ (List.mem_of_getElem? hg'))] at ht';have e:=h3 _ T' ht' hb';rw[e] at hg';exact Qu0 nJ hg' hg
theorem CallX.frame{E:Value→Ending}{P:Program}{f:FuncId}{args:List D}{hs hs' : List (List D)}{lv lv' : List Nat}{r:D}(k:CallX E P f args ⟨hs,lv⟩ r ⟨hs', lv'⟩)(I J:List Nat){H:List (List D)}{L:List Nat}(nI:I.Nodup)(nJ:J.Nodup)(hI:∀ i ∈ I,i<H.length)(hJ:∀ j ∈ J,j<L.length)
  (eH:I.map (H.getD · [])=hs.map fun cs=>cs.map (D.ren I J)) (eL:J.map (L.getD · 0)=lv) (hl' : hs'.length=I.length) (hlv' : J.length≤lv'.length)
  (ha:args.all (D.lt I.length J.length)=true) (hlt:hs.all (fun cs=>cs.all (D.lt I.length J.length))=true) (hr:r.lt I.length lv'.length=true) (hlt' : hs'.all (fun cs=>cs.all (D.lt I.length lv'.length))=true) :
  CallX E P f (args.map (D.ren I J)) ⟨H,L⟩ (r.ren I (Qqg J L.length lv'.length)) ⟨updL H I (hs'.map fun cs=>cs.map (D.ren I (Qqg J L.length lv'.length))),updL L J lv' ++ lv'.drop J.length⟩:=by
 generalize hJJ:Qqg J L.length lv'.length=JJ;have lJJ:JJ.length=lv'.length:=by rw[← hJJ]; unfold Qqg; simp; omega
 refine⟨k.fn,fun G w us hInv hs1 hrel=>?_⟩;have hN:G.name.length=H.length:=hInv.names;have hT:G.tok.length=L.length:=by have:=congrArg List.length hInv.live; simpa using this
 have hI' : ∀ i ∈ I,i<G.name.length:=fun i hi=>by rw[hN]; exact hI i hi
 have hJ' : ∀ j ∈ J,j<G.tok.length:=fun j hj=>by rw[hT]; exact hJ j hj
 have hsub:=hInv.sub nI nJ hI hJ eH eL hlt;rw[List.all_eq_true] at ha;refine(k.out (G.sub I J) w us hsub (by simpa using hs1) fun j d u hd hu=>Q20 hI' hJ' (ha d (List.mem_of_getElem? hd)) (hrel j _ u (by rw[List.getElem?_map,hd]; rfl) hu)).mono fun e w' ⟨u,Gs,he,hS,hV,hD⟩=>?_
 have lN:Gs.name.length=I.length:=by rw[← hl']; exact hV.names
 have lT:Gs.tok.length=lv'.length:=by have:=congrArg List.length hV.live; simpa using this
 have eN:∀ (k i:Nat),I[k]? = some i→Gs.name[k]? = G.name[i]? := fun k i hk=>by
  have hil:=hI' i (List.mem_of_getElem? hk);have:=Qoo (J:=J) (G:=G) hk hil;rw[Qb4 hil 0] at this ⊢;exact hS.name k _ this
 have hNs:∀ b,b ∈ Gs.name→b ∈ G.name:=fun b hb=>by
  obtain⟨k,hk⟩:=List.getElem?_of_mem hb;have hkl:k<I.length:=by rw[← lN]; exact(List.getElem?_eq_some_iff.1 hk).1
  rw[eN k _ (Qb4 hkl 0)] at hk;exact List.mem_of_getElem? hk
 have lU:(updL G.tok J Gs.tok).length=L.length:=by rw[Quz]; exact hT
 have bT:∀ (k j:Nat),JJ[k]? = some j→Gs.tok[k]? = (G.back Gs J).tok[j]? := fun k j hk=>by
  have hkl:k<Gs.tok.length:=by rw[lT,← lJJ]; exact(List.getElem?_eq_some_iff.1 hk).1
  rw[← hJJ] at hk;unfold Qqg at hk;show _=(updL G.tok J Gs.tok++Gs.tok.drop J.length)[j]?;by_cases hkJ:k<J.length
  ·rw[List.getElem?_append_left hkJ] at hk;have hj:=hJ j (List.mem_of_getElem? hk);rw[List.getElem?_append_left (by omega),Q8w J Gs.tok G.tok k j Gs.tok[k] nJ hJ' hk (List.getElem?_eq_getElem hkl),List.getElem?_eq_getElem hkl]
  ·rw[List.getElem?_append_right (by omega),List.getElem?_map] at hk;obtain⟨z,hz,rfl⟩:=Option.map_eq_some_iff.1 hk;have hz' : z=k-J.length:=by have:=(List.getElem?_eq_some_iff.1 hz).2; simpa using this.symm
   rw[List.getElem?_append_right (by omega),List.getElem?_drop];congr 1; omega
 have oT:∀ j,j<L.length→j ∉ J→(G.back Gs J).tok[j]? = G.tok[j]? := fun j hj hm=>by
  show(updL G.tok J Gs.tok++Gs.tok.drop J.length)[j]? = _;rw[List.getElem?_append_left (by omega)];exact Qx0 J Gs.tok G.tok j hm
 have tokCase:∀ (t:Nat) T,(G.back Gs J).tok[t]? = some T→(∃ k,JJ[k]? = some t∧Gs.tok[k]? = some T)∨(t ∉ J∧G.tok[t]? = some T):=fun t T ht=>by
  by_cases hm:t ∈ J
  ·obtain⟨k,hk⟩:=List.getElem?_of_mem hm;have hk2:JJ[k]? = some t:=by rw[← hJJ]; unfold Qqg; rw[List.getElem?_append_left (List.getElem?_eq_some_iff.1 hk).1]; exact hk
   exact .inl ⟨k,hk2,by rw[bT k t hk2]; exact ht⟩
  ·by_cases hlt:t<L.length
   ·exact .inr ⟨hm,by rw[← oT t hlt hm]; exact ht⟩
   ·have htl:t<(G.back Gs J).tok.length:=(List.getElem?_eq_some_iff.1 ht).1;have htl2:t<(updL G.tok J Gs.tok++Gs.tok.drop J.length).length:=htl;rw[List.length_append,lU,List.length_drop,lT] at htl2;have hk2:JJ[J.length+(t-L.length)]? = some t:=by
     rw[← hJJ]; unfold Qqg;rw[List.getElem?_append_right (by omega),List.getElem?_map,List.getElem?_range (by omega)];simp; omega
    exact .inl ⟨_,hk2,by rw[bT _ t hk2]; exact ht⟩
 have subBlk:∀ T ∈ (G.sub I J).tok,T ∈ G.tok:=fun T hT' => Qhh hJ' hT'
 have blkFrom:∀ T ∈ Gs.tok,∀ b,T.has b→w.heap.size≤b∨b ∈ (G.sub I J).name∨∃ T ∈ (G.sub I J).tok,T.has b:=fun T hT' b hb=>hS.ext.mine b (.inr ⟨T,hT', hb⟩)
 have stp:Stp G w (G.back Gs J) w' := by
  refine⟨⟨hS.ext.os,hS.ext.tape,hS.ext.output,hS.ext.size,hS.ext.com,fun b hb hn ht=>hS.ext.old b hb (fun hm=>hn (Qhh hI' hm)) (fun T hT' => ht T (subBlk T hT')),fun b o hc=>?_,fun b hb=>?_,hS.ext.mono,hS.ext.shp⟩,fun nm b hb=>hb,fun t T ht=>?_⟩
  ·rcases hS.ext.new b o hc with h | h | h | ⟨T,h,hb⟩
   ·exact .inl h
   ·exact .inr (.inl h)
   ·exact .inr (.inr (.inl (Qhh hI' h)))
   ·exact .inr (.inr (.inr ⟨T,subBlk T h,hb⟩))
  ·rcases hb with hb | ⟨T,hT', hb⟩
   ·exact .inr (.inl hb)
   ·obtain⟨t,ht⟩:=List.getElem?_of_mem hT';rcases tokCase t T ht with ⟨k,-,hk⟩ | ⟨-,hk⟩
    ·rcases blkFrom T (List.mem_of_getElem? hk) b hb with h | h | ⟨T2,h,hb2⟩
     ·exact .inl h
     ·exact .inr (.inl (Qhh hI' h))
     ·exact .inr (.inr ⟨T2,subBlk T2 h,hb2⟩)
    ·exact .inr (.inr ⟨T,List.mem_of_getElem? hk,hb⟩)
  ·by_cases hm:t ∈ J
   ·obtain⟨k,hk⟩:=List.getElem?_of_mem hm;obtain⟨T', h1,h2⟩:=hS.tok k T (by rw[Qqf hk (hJ' t hm)]; exact ht);have hk2:JJ[k]? = some t:=by rw[← hJJ]; unfold Qqg; rw[List.getElem?_append_left (List.getElem?_eq_some_iff.1 hk).1]; exact hk
    exact⟨T', by rw[← bT k t hk2]; exact h1,h2⟩
   ·refine⟨T,by rw[oT t (by rw[← hT]; exact(List.getElem?_eq_some_iff.1 ht).1) hm]; exact ht,.refl T,fun _=>⟨rfl,fun b hb=>?_⟩⟩;obtain⟨g1,g2,g3⟩:=hInv.tok t T b ht hb;refine hS.ext.old b g1 (fun hx=>g2 (Qhh hI' hx)) fun T' hT' hb' => ?_
    obtain⟨j,hj,rfl⟩:=List.mem_map.1 hT';have:=g3 j _ (Qb4 (hJ' j hj) tok0) hb';subst this;exact hm hj
 have inv:Inv (G.back Gs J) ⟨updL H I (hs'.map fun cs=>cs.map (D.ren I JJ)),updL L J lv' ++ lv'.drop J.length⟩ w' := by
  refine⟨fun b o hc=>?_,?_,hInv.nodup,fun i b cs hb hcs=>?_,?_,fun t T b ht hb=>?_,fun T hT' => ?_,hV.glob⟩
  rotate_right
  ·obtain⟨t,ht⟩:=List.getElem?_of_mem hT';rcases tokCase t T ht with ⟨k,-,hk⟩ | ⟨hm,hk⟩
   ·exact hV.pro T (List.mem_of_getElem? hk)
   ·have hm' := List.mem_of_getElem? hk;refine⟨Tok.ok_ext (hInv.pro T hm') stp.ext fun b hb=>?_,fun b o hr=>hS.ext.mono b o ((hInv.pro T hm').2 b o hr)⟩;obtain⟨g1,g2,g3⟩:=hInv.tok t T b hk hb;refine hS.ext.old b g1 (fun hx=>g2 (Qhh hI' hx)) fun T' hT' hb' => ?_
    obtain⟨j,hj,rfl⟩:=List.mem_map.1 hT';have:=g3 j _ (Qb4 (hJ' j hj) tok0) hb';subst this;exact hm hj
  ·obtain⟨g1,g2,g3⟩:=hV.com b o hc;have hne:∀ b', b' ∈ (G.sub I J).name→b' ∈ Gs.name:=fun b' hb' => by
    obtain⟨k,hk⟩:=List.getElem?_of_mem hb';exact List.mem_of_getElem? (hS.name k b' hk)
   refine⟨g1,fun hm=>?_,fun T hT' => ?_⟩
   ·rcases hS.ext.new b o hc with h | h | h | ⟨T,h,hb⟩
    ·exact(hInv.com b o h).2.1 hm
    ·have:=Qfs hInv b hm; omega
    ·exact g2 (hne b h)
    ·obtain⟨j,hj,rfl⟩:=List.mem_map.1 h;exact(hInv.tok j _ b (Qb4 (hJ' j hj) tok0) hb).2.1 hm
   ·obtain⟨t,ht⟩:=List.getElem?_of_mem hT';rcases tokCase t T ht with ⟨k,-,hk⟩ | ⟨hm,hk⟩
    ·exact g3 T (List.mem_of_getElem? hk)
    ·have key:T.has b→T.may b o:=fun hb=>by
      obtain⟨q1,q2,q3⟩:=hInv.tok t T b hk hb;rcases hS.ext.new b o hc with h | h | h | ⟨T2,h,hb2⟩
      ·exact(hInv.com b o h).2.2 T (List.mem_of_getElem? hk)
      ·omega
      ·exact absurd (Qhh hI' h) q2
      ·obtain⟨j,hj,rfl⟩:=List.mem_map.1 h;have:=q3 j _ (Qb4 (hJ' j hj) tok0) hb2;subst this;exact absurd hj hm
     exact⟨fun hb=>(key (.inl hb)).1 hb,fun hb=>(key (.inr hb)).2 hb⟩
  ·show G.name.length=(updL H I _).length;rw[Quz]; exact hN
  ·by_cases hm:i ∈ I
   ·obtain⟨k,hk⟩:=List.getElem?_of_mem hm;have hkl:k<hs'.length:=by rw[hl']; exact(List.getElem?_eq_some_iff.1 hk).1
    have hcs' : (updL H I (hs'.map fun cs=>cs.map (D.ren I JJ)))[i]? = some (hs'[k].map (D.ren I JJ)):=Q8w I _ H k i _ nI hI hk (by rw[List.getElem?_map,List.getElem?_eq_getElem hkl]; rfl);have hcs2:(updL H I (hs'.map fun cs=>cs.map (D.ren I JJ)))[i]? = some cs:=hcs;rw[hcs'] at hcs2;cases hcs2;cases hV.var k b hs'[k] (by rw[eN k i hk]; exact hb) (List.getElem?_eq_getElem hkl) with
    | map fl ms es clock h1 h2 h3=>exact .map fl ms es clock (by rw[h1]; rfl) h2 h3
    | cells us' ty h1 h2 h3 =>
    refine .cells us' ty h1 (by rw[h2]; simp) fun j c u hc hu=>?_
    rw[List.getElem?_map] at hc;obtain⟨c', hc', rfl⟩:=Option.map_eq_some_iff.1 hc;obtain⟨q1,q2⟩:=h3 j c' u hc' hu;rw[List.all_eq_true] at hlt';have hl2:=hlt' hs'[k] (List.getElem_mem hkl);rw[List.all_eq_true] at hl2;exact⟨q1,Qael (J:=JJ) eN bT (by rw[lJJ]; exact hl2 c' (List.mem_of_getElem? hc')) q2⟩
   ·have hcs2:(updL H I (hs'.map fun cs=>cs.map (D.ren I JJ)))[i]? = some cs:=hcs;rw[Qx0 I _ H i hm] at hcs2;refine(hInv.var i b cs hb hcs2).mono stp ?_;refine hS.ext.old b (Qfs hInv b (List.mem_of_getElem? hb)) (fun hx=>?_) (fun T hT' hb' => ?_)
    ·obtain⟨j,hj,he⟩:=List.mem_map.1 hx;have g1:=Qb4 (hI' j hj) 0;rw[he] at g1;have:=Qu0 hInv.nodup g1 hb;subst this;exact hm hj
    ·obtain⟨j,hj,rfl⟩:=List.mem_map.1 hT';exact(hInv.tok j _ b (Qb4 (hJ' j hj) tok0) hb').2.1 (List.mem_of_getElem? hb)
  ·show(updL G.tok J Gs.tok++Gs.tok.drop J.length).map (·.len)=updL L J lv' ++ lv'.drop J.length;rw[show lv' = Gs.tok.map (·.len) from hV.live.symm,show L=G.tok.map (·.len) from hInv.live.symm];have:∀ (J:List Nat) (A N:List Tok),(updL A J N).map (·.len)=updL (A.map (·.len)) J (N.map (·.len)):=by
    intro J
    induction J with
    | nil=>intro A N; cases N<;>rfl
    | cons j J ih =>
     intro A N;cases N with
     | nil=>rfl
     | cons n N=>rw[updL,ih,List.map_cons,updL,List.map_set]
   rw[List.map_append,this J G.tok Gs.tok,List.map_drop]
  ·rcases tokCase t T ht with ⟨k,hk,hT'⟩ | ⟨hm,hT'⟩
   ·obtain⟨q1,q2,q3⟩:=hV.tok k T b hT' hb;refine⟨q1,fun hx=>?_,fun t' T' ht' hb' => ?_⟩
    ·rcases blkFrom T (List.mem_of_getElem? hT') b hb with h | h | ⟨T2,h,hb2⟩
     ·have:=Qfs hInv b hx; omega
     ·obtain⟨k2,hk2⟩:=List.getElem?_of_mem h;exact q2 (List.mem_of_getElem? (hS.name k2 b hk2))
     ·obtain⟨j,hj,rfl⟩:=List.mem_map.1 h;exact(hInv.tok j _ b (Qb4 (hJ' j hj) tok0) hb2).2.1 hx
    ·rcases tokCase t' T' ht' with ⟨k', hk', hT2⟩ | ⟨hm', hT2⟩
     ·have:=q3 k' T' hT2 hb';subst this;exact Option.some.inj (hk'.symm.trans hk)
     ·obtain⟨z1,z2,z3⟩:=hInv.tok t' T' b hT2 hb';rcases blkFrom T (List.mem_of_getElem? hT') b hb with h | h | ⟨T2,h,hb2⟩
      ·omega
      ·exact absurd (Qhh hI' h) z2
      ·obtain⟨j,hj,rfl⟩:=List.mem_map.1 h;have:=z3 j _ (Qb4 (hJ' j hj) tok0) hb2;subst this;exact absurd hj hm'
   ·obtain⟨z1,z2,z3⟩:=hInv.tok t T b hT' hb;refine⟨Nat.lt_of_lt_of_le z1 hS.ext.size,z2,fun t' T' ht' hb' => ?_⟩;rcases tokCase t' T' ht' with ⟨k', hk', hT2⟩ | ⟨hm', hT2⟩
    ·rcases blkFrom T' (List.mem_of_getElem? hT2) b hb' with h | h | ⟨T2,h,hb2⟩
     ·omega
     ·exact absurd (Qhh hI' h) z2
     ·obtain⟨j,hj,rfl⟩:=List.mem_map.1 h;have:=z3 j _ (Qb4 (hJ' j hj) tok0) hb2;subst this;exact absurd hj hm
    ·exact z3 t' T' hT2 hb'
 exact⟨u,G.back Gs J,he,stp,inv,Qael (J:=JJ) eN bT (by rw[lJJ]; exact hr) hD⟩
def Qyu:List Nat→Bool
 | []=>true
 | x::r => !r.contains x&&Qyu r
theorem Qez:∀ l:List Nat,Qyu l=true→l.Nodup
 | [],_=>List.nodup_nil
 | x::r,h=>by
  simp only[Qyu,Bool.and_eq_true] at h;exact List.nodup_cons.2 ⟨by simpa using h.1,Qez r h.2⟩
def Qt0(I J:List Nat)(nh nl:Nat)(args:List D)(hs hs' : List (List D))(lv' : List Nat)(r:D):Bool :=
 Qyu I&&Qyu J&&I.all (Nat.blt · nh)&&J.all (Nat.blt · nl)&&hs'.length==I.length&&Nat.ble J.length lv'.length&&args.all (D.lt I.length J.length)&&hs.all (fun cs=>cs.all (D.lt I.length J.length))&&r.lt I.length lv'.length&&hs'.all (fun cs=>cs.all (D.lt I.length lv'.length))
theorem Qnf{I:List Nat}{n:Nat}(h:I.all (Nat.blt · n)=true):∀ i ∈ I,i<n:=fun i hi=>by
 rw[List.all_eq_true] at h;simpa [Nat.blt_eq] using h i hi
theorem CallX.fr{E:Value→Ending}{P:Program}{f:FuncId}{args:List D}{hs hs' : List (List D)}{lv lv' : List Nat}{r:D}(k:CallX E P f args ⟨hs,lv⟩ r ⟨hs', lv'⟩)(I J:List Nat){H:List (List D)}{L:List Nat}(c:Qt0 I J H.length L.length args hs hs' lv' r=true)
  (eH:I.map (H.getD · [])=hs.map fun cs=>cs.map (D.ren I J)) (eL:J.map (L.getD · 0)=lv):CallX E P f (args.map (D.ren I J)) ⟨H,L⟩ (r.ren I (Qqg J L.length lv'.length)) ⟨updL H I (hs'.map fun cs=>cs.map (D.ren I (Qqg J L.length lv'.length))),updL L J lv' ++ lv'.drop J.length⟩:=by
 unfold Qt0 at c;simp only[Bool.and_eq_true] at c;obtain⟨⟨⟨⟨⟨⟨⟨⟨⟨c1,c2⟩,c3⟩,c4⟩,c5⟩,c6⟩,c7⟩,c8⟩,c9⟩,c10⟩:=c;exact k.frame I J (Qez I c1) (Qez J c2) (Qnf c3) (Qnf c4) eH eL (by simpa using c5) (Nat.le_of_ble_eq_true c6) c7 c8 c9 c10
theorem Q6l{α : Type}:∀ (I:List Nat) (N H:List α),I.Nodup→(∀ (k i:Nat) n,I[k]? = some i→N[k]? = some n→H[i]? = some n)→updL H I N=H
 | [],N,H,_,_=>by cases N<;>rfl
 | i::I,[],H,_,_=>rfl
 | i::I,n::N,H,hd,h=>by
  have h0:H[i]? = some n:=h 0 i n rfl rfl;have e:H.set i n=H:=by
   apply List.ext_getElem?;intro j;by_cases hj:j=i
   ·subst hj;rw[List.getElem?_set_self (List.getElem?_eq_some_iff.1 h0).1,h0]
   ·rw[List.getElem?_set_ne (fun e=>hj e.symm)]
  rw[updL,e];exact Q6l I N H (List.nodup_cons.1 hd).2 fun k j m hk hm=>h (k+1) j m (by simpa using hk) (by simpa using hm)
end
def Gh.xset(G:Gh)(t v:Nat)(bk:Option Nat):Gh:={ G with tok:=G.tok.set t ⟨v,bk,0,none⟩ }
theorem Qop{G:Gh}{s:S}{w w' : World}(hI:Inv G s w){t:Nat}{T:Tok}(hT:G.tok[t]? = some T)(hp:T.pro=none){v:Nat}(hv:T.len<v){bk:Option Nat}(hos:w'.os=w.os)(hta:w'.tape=w.tape)(hou:w'.output=w.output)(hz:w.heap.size≤w'.heap.size)
  (hold:∀ k,k<w.heap.size→bk≠some k→w'.heap[k]? = w.heap[k]?) (hw:∀ g,bk=some g→g<w'.heap.size∧(w.heap.size≤g∨(T.blk=some g∧T.cells=0))) (shp:ShKept w w') :
  Stp G w (G.xset t v bk) w' ∧ Inv (G.xset t v bk) { s with live:=s.live.set t v } w' := by
 have hTm:T ∈ G.tok:=List.mem_of_getElem? hT;have hlt:t<G.tok.length:=(List.getElem?_eq_some_iff.1 hT).1;have hgn:∀ g,bk=some g→g ∉ G.name:=fun g hg hm=>by
  rcases (hw g hg).2 with h | h
  ·have:=Qfs hI g hm; omega
  ·exact(hI.tok t T g hT (.inl h.1)).2.1 hm
 have hgc:∀ g o,bk=some g→¬ G.com g o:=fun g o hg hc=>by
  obtain⟨h1,-,h3⟩:=hI.com g o hc;rcases (hw g hg).2 with h | h
  ·omega
  ·have:=(h3 T hTm).1 h.1; omega
 have hgt:∀ g,bk=some g→∀ (t' : Nat) T', G.tok[t']? = some T' → T'.has g→t' = t:=fun g hg t' T' h1 h2=>by
  rcases (hw g hg).2 with h | h
  ·have:=(hI.tok t' T' g h1 h2).1; omega
  ·exact(hI.tok t T g hT (.inl h.1)).2.2 t' T' h1 h2
 have oth:∀ (t' : Nat) T', t' ≠ t→G.tok[t']? = some T' → ∀ b,T'.has b→w'.heap[b]? = w.heap[b]? := fun t' T' hne h b hb =>
  hold b (hI.tok t' T' b h hb).1 fun e=>hne (hgt b e t' T' h hb)
 have nam:∀ b ∈ G.name,w'.heap[b]? = w.heap[b]? := fun b hb=>hold b (Qfs hI b hb) fun e=>hgn b e hb
 have hst:Stp G w (G.xset t v bk) w' := by
  refine⟨⟨hos,hta,hou,hz,fun b o u h hu=>⟨h,?_⟩,fun b h1 h2 h3=>?_,fun b o h =>.inl h,fun b h=>?_,fun _ _ h=>h,shp⟩,fun nm b h=>h,fun t' T' h=>?_⟩
  ·rw[World.cell?_of_block (w:=w) (hold b (hI.com b o h).1 fun e=>hgc b o e h)]; exact hu
  ·refine hold b h1 fun e=>?_
   rcases (hw b e).2 with h | h
   ·omega
   ·exact h3 T hTm (.inl h.1)
  ·rcases h with h | ⟨T', hT', hb⟩
   ·exact .inr (.inl h)
   ·have hT' : T' ∈ G.tok.set t ⟨v,bk,0,none⟩:=hT';rcases List.mem_or_eq_of_mem_set hT' with h | h
    ·exact .inr (.inr ⟨T', h,hb⟩)
    ·subst h;rcases (hw b (Tok.has_row.1 hb)).2 with h | h
     ·exact .inl h
     ·exact .inr (.inr ⟨T,hTm,.inl h.1⟩)
  ·by_cases htt:t' = t
   ·subst htt;rw[hT] at h;cases h;exact⟨⟨v,bk,0,none⟩,List.getElem?_set_self hlt,⟨by simp only; omega,by simp[hp]⟩,fun e=>by simp only at e; omega⟩
   ·refine⟨T', ?_,.refl T', fun _=>⟨rfl,oth t' T' htt h⟩⟩;show(G.tok.set t _)[t']? = _;rw[List.getElem?_set_ne (fun e=>htt e.symm)]; exact h
 have mem' : ∀ T' ∈ G.tok.set t ⟨v,bk,0,none⟩,(∃ i,i≠t∧G.tok[i]? = some T')∨T' = ⟨v,bk,0,none⟩:=fun T' hT' => by
  obtain⟨i,hi⟩:=List.getElem?_of_mem hT';by_cases hit:t=i
  ·subst hit;rw[List.getElem?_set_self hlt] at hi;exact .inr (Option.some.inj hi).symm
  ·rw[List.getElem?_set_ne hit] at hi;exact .inl ⟨i,fun e=>hit e.symm,hi⟩
 refine⟨hst,⟨fun b o h=>?_,hI.names,hI.nodup,fun i b cs hb hcs=>?_,?_,fun t' T' b h hb=>?_,fun T' hT' => ?_,hI.glob.mono hst.ext.com⟩⟩
 ·obtain⟨h1,h2,h3⟩:=hI.com b o h;refine⟨Nat.lt_of_lt_of_le h1 hz,h2,fun T' hT' => ?_⟩;rcases mem' T' hT' with ⟨i,-,hi⟩ | rfl
  ·exact h3 T' (List.mem_of_getElem? hi)
  ·exact Tok.may_row.2 fun hb=>absurd h (hgc b o hb)
 ·exact(hI.var i b cs hb hcs).mono hst (nam b (List.mem_of_getElem? hb))
 ·show(G.tok.set t _).map (·.len)=s.live.set t v;rw[List.map_set,hI.live]
 ·have h:(G.tok.set t ⟨v,bk,0,none⟩)[t']? = some T' := h;have uni:∀ (t'' : Nat) T'', (G.tok.set t ⟨v,bk,0,none⟩)[t'']? = some T'' → T''.has b→(t'' = t∧bk=some b)∨(t'' ≠ t∧G.tok[t'']? = some T''):=fun t'' T'' h hb=>by
   by_cases htt:t'' = t
   ·subst htt;rw[List.getElem?_set_self hlt] at h;cases h;exact .inl ⟨rfl,Tok.has_row.1 hb⟩
   ·rw[List.getElem?_set_ne (fun e=>htt e.symm)] at h;exact .inr ⟨htt,h⟩
  rcases uni t' T' h hb with ⟨rfl,hg⟩ | ⟨hne,h⟩
  ·refine⟨(hw b hg).1,hgn b hg,fun t'' T'' h'' hb'' => ?_⟩;rcases uni t'' T'' h'' hb'' with ⟨e,-⟩ | ⟨-,h''⟩
   ·exact e
   ·exact hgt b hg t'' T'' h'' hb''
  ·obtain⟨h1,h2,h3⟩:=hI.tok t' T' b h hb;refine⟨Nat.lt_of_lt_of_le h1 hz,h2,fun t'' T'' h'' hb'' => ?_⟩;rcases uni t'' T'' h'' hb'' with ⟨e,hg⟩ | ⟨-,h''⟩
   ·exact absurd (hgt b hg t' T' h hb) hne
   ·exact h3 t'' T'' h'' hb''
 ·rcases mem' T' hT' with ⟨i,hit,hi⟩ | rfl
  ·have hm:=List.mem_of_getElem? hi;exact⟨Tok.ok_ext (hI.pro T' hm) hst.ext (oth i T' hit hi),(hI.pro T' hm).2⟩
  ·exact⟨fun q hq=>(nomatch hq),fun b o ⟨q,hq,_⟩=>(nomatch hq)⟩
theorem Qoq{G:Gh}{t v:Nat}{T:Tok}{bk:Option Nat}(hT:G.tok[t]? = some T):(G.xset t v bk).tok[t]? = some ⟨v,bk,0,none⟩:=List.getElem?_set_self (List.getElem?_eq_some_iff.1 hT).1
theorem Qahn{G:Gh}{s:S}{w:World}(hI:Inv G s w){t v:Nat}(h:s.live[t]? = some v):∃ T,G.tok[t]? = some T∧T.len=v:=by
 rw[← hI.live,List.getElem?_map] at h;obtain⟨T,h1,h2⟩:=Option.map_eq_some_iff.1 h;exact⟨T,h1,h2⟩
theorem Qaa1{G:Gh}{s:S}{w:World}(hI:Inv G s w):G.tok.length=s.live.length:=by rw[← hI.live]; simp
inductive Home where
 | no
 | s (t:Nat)
 | a (t j:Nat)
 | h (nm off:Nat)
def Home.get(h:Home)(σ : St):Option D:=match h with
 | .no=>none
 | .s t => σ.env.lookup t
 | .a t j=>match σ.env.lookup t with
  | some (.agg ds)=>ds[j]?
  | _=>none
 | .h nm off=>match σ.s.heap[nm]? with
  | some cs=>cs[off]?
  | none=>none
def Home.set(h:Home)(d:D)(σ : St):St:=match h with
 | .no => σ
 | .s t=>⟨setE σ.env t d,σ.s⟩
 | .a t j=>match σ.env.lookup t with
  | some (.agg ds)=>⟨setE σ.env t (.agg (ds.set j d)),σ.s⟩
  | _ => σ
 | .h nm off=>match σ.s.heap[nm]? with
  | some cs=>⟨σ.env,⟨σ.s.heap.set nm (cs.set off d),σ.s.live⟩⟩
  | none => σ
theorem Qaa2{N:Nat}{G G' : Gh}{σ : St}{live' : List Nat}{a:Act}{w w' : World}(hR:Rel N G σ a w)(hS:Stp G w G' w')(hI' : Inv G' ⟨σ.s.heap,live'⟩ w')(hn:G'.name=G.name)(hnb:∀ b ∈ G.name,w'.heap[b]? = w.heap[b]?)
  {hm:Home} {d0 d1:D} (hg:hm.get σ = some d0) (hup:∀ u,DRel G w d0 u→DRel G' w' d1 u∧u.oneCell' = true) (hnt:∀ ds,d0 ≠ .tup ds:=by exact fun _ h=>nomatch h):Rel N G' (hm.set d1 ⟨σ.env,⟨σ.s.heap,live'⟩⟩) a w' := by
 have henv:=hR.env.mono hS;cases hm with
 | no=>cases hg
 | s t =>
  refine⟨hI', fun t' d' h' => ?_,hR.size⟩;rcases Qqe _ _ _ _ _ h' with ⟨h1,-⟩ | ⟨rfl,rfl⟩
  ·exact henv t' d' h1
  ·obtain⟨k1,k2⟩:=hR.env t' d0 hg;exact⟨k1,(hup _ k2).1⟩
 | a t j =>
  dsimp only[Home.get] at hg;dsimp only[Home.set];split at hg
  ·rename_i ds hds;refine⟨hI', fun t' d' h' => ?_,hR.size⟩;rcases Qqe _ _ _ _ _ h' with ⟨h1,-⟩ | ⟨rfl,rfl⟩
   ·exact henv t' d' h1
   ·obtain⟨k1,k2⟩:=hR.env t' _ hds;refine⟨k1,?_⟩;generalize a.tmps.getD t' undef=u at k2;cases k2 with
    | agg _ us l1 l2 l3 =>
     refine .agg _ us (by simpa using l1) (fun i c u hc hu=>?_) (fun i c u hc hu=>?_)
     all_goals
      by_cases hij:j=i
      ·subst hij;have hlj:j<ds.length:=by have:=(List.getElem?_eq_some_iff.1 hc).1; simpa using this
       rw[List.getElem?_set_self hlj] at hc;cases hc
       first
        | exact(hup u (l3 j d0 u hg hu)).2
        | exact(hup u (l3 j d0 u hg hu)).1
      ·rw[List.getElem?_set_ne hij] at hc
       first
        | exact l2 i c u hc hu
        | exact(l3 i c u hc hu).mono hS
  ·cases hg
 | h nm off =>
  dsimp only[Home.get] at hg;dsimp only[Home.set];split at hg
  ·rename_i cs hcs;refine⟨⟨hI'.com,by rw[hI'.names]; simp,hI'.nodup,fun i b cs' hb hcs' => ?_,hI'.live,hI'.tok,hI'.pro,hI'.glob⟩,henv,hR.size⟩;by_cases hi:i=nm
   ·subst hi;have hlt:i < σ.s.heap.length:=(List.getElem?_eq_some_iff.1 hcs).1;rw[List.getElem?_set_self hlt] at hcs';cases hcs';rw[hn] at hb;obtain⟨us,ty,h1,h2,h3⟩:=(hR.inv.var i b cs hb hcs).at hg hnt;refine .cells us ty ((hnb b (List.mem_of_getElem? hb)).trans h1) (by rw[h2]; simp) fun j c u hj hu=>?_
    by_cases hjo:off=j
    ·subst hjo;have hlj:off<cs.length:=(List.getElem?_eq_some_iff.1 hg).1;rw[List.getElem?_set_self hlj] at hj;cases hj;have:=hup u (h3 off d0 u hg hu).2;exact⟨this.2,this.1⟩
    ·rw[List.getElem?_set_ne hjo] at hj;exact⟨(h3 j c u hj hu).1,(h3 j c u hj hu).2.mono hS⟩
   ·rw[List.getElem?_set_ne (fun e=>hi e.symm)] at hcs';exact hI'.var i b cs' hb hcs'
  ·cases hg
section
variable {P:Program} {tb:Tbl}
def ResX(N:Nat)(G:Gh)(a:Act)(w:World)(r:Result Next)(K:D→St→Prop):Prop :=
 ∃ u w' G' d σ', (r = .ok (.value u) w' ∨ (r = .ok .skip w' ∧ u=undef))∧Stp G w G' w' ∧ Rel N G' σ' a w' ∧ DRel G' w' d u∧K d σ'
def xput(c vs:List V)(off:Nat):List V:=c.take off++vs++c.drop (off+vs.length)
def xDat(d:D):Option (List V):=(Qmt d).bind unps
def xNew(e size:Nat)(es:List (List V))(σ : St)(K:D→St→Prop):Prop :=
 ∃ es', LeLL es es' ∧ K (.x σ.s.live.length 1 (.sl e size es')) ⟨σ.env,⟨σ.s.heap,σ.s.live++[1]⟩⟩
def Qajy(tb:Tbl)(t:Nat)(l c:D)(σ : St)(K:D→St→Prop):Prop :=
 match tb.lookup t,l,c with
 | some ti,.p (.v (.int _ n)),.p (.v (.int _ m))=>match ti.d with
  | .slice e=>match tb.lookup e with
   | some te=>match absV te.zero with
    | some x=>match xDat (.p x) with
     | some zs=>(zs.length=te.size∧0<te.size)∧(0≤n∧m=n∧n*te.bytes≤140737488355328∧n≤9223372036854775807)∧xNew e te.size (List.replicate n.toNat zs) σ K
     | none=>False
    | none=>False
   | none=>False
  | _=>False
 | _,_,_=>False
def xApp(tb:Tbl)(t:Nat)(x y:D)(σ : St)(K:D→St→Prop):Prop :=
 match tb.lookup t,unp y with
 | some ti,some (.sl _ fs)=>match ti.d with
  | .slice e=>match tb.lookup e with
   | some te=>if te.zero.cells.size=te.size∧0<te.size then
    match x with
    | .x tk v (.sl e' sz es)=>if e' = e∧sz=te.size then σ.s.live[tk]? = some v∧((∀ x ∈ fs,x.length=te.size)∧(es.length+fs.length)*te.bytes≤140737488355328∧es.length+fs.length≤9223372036854775807) ∧
      ∃ es', LeLL (es++fs) es' ∧ K (.x tk (v+1) (.sl e te.size es')) ⟨σ.env,⟨σ.s.heap,σ.s.live.set tk (v+1)⟩⟩ else False
    | .p (.sl true es)=>(es.length=0∨0<fs.length)∧(∀ x ∈ es,x.length=te.size)∧((∀ x ∈ fs,x.length=te.size)∧(es.length+fs.length)*te.bytes≤140737488355328∧es.length+fs.length≤9223372036854775807) ∧
      xNew e te.size (es++fs) σ K
    | _=>False
    else False
   | none=>False
  | _=>False
 | _,_=>False
def Qyv(tb:Tbl)(t:Nat)(x i:D)(σ : St)(K:D→St→Prop):Prop :=
 match tb.lookup t,i,x with
 | some ti,.p (.v (.int _ n)),.x tk v (.sl e sz es)=>match ti.d with
  | .slice e' => match tb.lookup e' with
   | some te=>if sz=te.size then σ.s.live[tk]? = some v∧∃ c,0≤n∧es[n.toNat]? = some c∧c.length=te.size∧0<te.size∧K (.x tk v (.el e sz es n.toNat c 0)) σ else False
   | none=>False
  | _=>False
 | _,_,_=>False
def Q8y(tb:Tbl)(t:Nat)(x:D)(σ : St)(K:D→St→Prop):Prop :=
 match tb.lookup t,x with
 | some ti,.x tk v (.el _ _ _ _ c off) => σ.s.live[tk]? = some v∧off+ti.size≤c.length∧Qyh ti (c.drop off) fun y=>K (.p y) σ
 | _,_=>False
def Qyw(tb:Tbl)(t:Nat)(x:D)(f:Nat)(σ : St)(K:D→St→Prop):Prop :=
 match tb.lookup t,x with
 | some ti,.x tk v (.el e sz es i c off)=>match ti.d with
  | .struct fields=>match fields[f]? with
   | some fd=>match tb.lookup fd.type with
    | some tf=>if tf.size=0 then False else σ.s.live[tk]? = some v∧K (.x tk v (.el e sz es i c (off+fd.offset))) σ
    | none=>False
   | none=>False
  | _=>False
 | _,_=>False
def Qaem(tb:Tbl)(hm:Home)(t:Nat)(x y:D)(σ : St)(K:D→St→Prop):Prop :=
 match tb.lookup t,x,xDat y with
 | some ti,.x tk v (.el e sz es i c off),some vs=>vs.length=ti.size∧off+vs.length≤c.length ∧ σ.s.live[tk]? = some v∧hm.get σ = some (.x tk v (.sl e sz es)) ∧
   ∃ es', LeLL (es.set i (xput c vs off)) es' ∧ K .undef (hm.set (.x tk (v+1) (.sl e sz es')) ⟨σ.env,⟨σ.s.heap,σ.s.live.set tk (v+1)⟩⟩)
 | _,_,_=>False
def xLen(tb:Tbl)(t:Nat)(x:D)(σ : St)(K:D→St→Prop):Prop :=
 match tb.lookup t,x with
 | some ti,.x tk v (.sl _ _ es)=>match ti.d with
  | .slice _ => σ.s.live[tk]? = some v∧∃ n,es.length=n∧K (.p (.v (.int .i64 n))) σ
  | _=>False
 | _,_=>False
def xS2B(tb:Tbl)(src dst:Nat)(x:D)(σ : St)(K:D→St→Prop):Prop :=
 match tb.lookup src,tb.lookup dst,x with
 | some ti,some tu,.p (.v (.string z))=>match ti.d,tu.d with
  | .string,.slice e=>match tb.lookup e with
   | some te=>match te.d with
    | .int .u8=>te.size=1∧(Qat z).length≤maxLen∧∃ d' live,LeD (.own σ.s.live.length (e+2000000) 1 ((Qat z).map Qey)) d' ∧ live = σ.s.live++[(Qat z).length]∧K d' ⟨σ.env,⟨σ.s.heap,live⟩⟩
    | _=>False
   | none=>False
  | _,_=>False
 | _,_,_=>False
def Q8z(tb:Tbl)(hm:Home)(o:Op)(σ : St)(K:D→St→Prop):Prop :=
 match o with
 | .convert src dst x=>match ev σ.env x with | some d=>xS2B tb src dst d σ K | none=>False
 | .makeSlice t x y=>match ev σ.env x,ev σ.env y with | some a,some b=>Qajy tb t a b σ K | _,_=>False
 | .load t x=>match ev σ.env x with | some d=>Q8y tb t d σ K | none=>False
 | .store t x y=>match ev σ.env x,ev σ.env y with | some a,some b=>Qaem tb hm t a b σ K | _,_=>False
 | .nilCheck x=>match ev σ.env x with | some (.x tk v (.el e sz es i c off)) => σ.s.live[tk]? = some v∧K (.x tk v (.el e sz es i c off)) σ | _=>False
 | .fieldAddr t x f=>match ev σ.env x with | some d=>Qyw tb t d f σ K | none=>False
 | .indexAddr t x i=>match ev σ.env x,ev σ.env i with | some a,some b=>Qyv tb t a b σ K | _,_=>False
 | .call c=>match c.callee,evs (ev σ.env) c.args.toList,c.argTypes.toList with
  | .builtin .len,some [x],[t]=>xLen tb t x σ K
  | .builtin .append,some [x,y],[t,t']=>if t=t' then xApp tb t x y σ K else False
  | _,_,_=>False
 | _=>False
theorem XRow.le{C:Nat→Nat→Prop}{w:World}{T:Tok}{a:Option Addr}{cap e size:Nat}{es es' : List (List V)}(h:XRow C w T a cap e size es)(k:LeLL es es'):XRow C w T a cap e size es' := by
 obtain⟨h1,h2,h3,h4⟩:=h;refine⟨fun x hx=>?_,by rw[← k.1]; exact h2,h3,h4.imp id ?_⟩
 ·obtain⟨i,hi⟩:=List.getElem?_of_mem hx;obtain⟨y,hy⟩:=Qil k.1 hi;rw[← (k.2 i y x hy hi).1];exact h1 y (List.mem_of_getElem? hy)
 ·rintro ⟨b,us,g1,g2,g3,g4,g5,g6⟩;refine⟨b,us,g1,g2,g3,g4,g5,fun i j x c hx hc=>?_⟩;obtain⟨y,hy⟩:=Qil k.1 hx;obtain⟨z,hz⟩:=Qil (k.2 i y x hy hx).1 hc;obtain⟨u,q1,q2,q3⟩:=g6 i j y z hy hz;exact⟨u,q1,q2,q3.le ((k.2 i y x hy hx).2 j z c hz hc)⟩
theorem Qv9{N:Nat}{G:Gh}{σ : St}{a:Act}{w:World}(hR:Rel N G σ a w):∃ G1,Stp G w G1 w∧Rel N G1 ⟨σ.env,⟨σ.s.heap,σ.s.live++[0]⟩⟩ a w∧G1.tok[σ.s.live.length]? = some ⟨0,none,0,none⟩∧G1.com=G.com∧G1.name=G.name:=by
 obtain⟨s1,s2⟩:=Qln hR.inv 0;exact⟨_,s1,⟨s2,hR.env.mono s1,hR.size⟩,by rw[← Qaa1 hR.inv]; exact List.getElem?_concat_length,rfl,rfl⟩
theorem Q21(l:List Nat)(v:Nat):(l++[0]).set l.length v=l++[v]:=by
 rw[List.set_append_right _ _ (Nat.le_refl _)]; simp
theorem Qaa3{N:Nat}{G:Gh}{σ : St}{a:Act}{w w' : World}(hR:Rel N G σ a w){e size cap:Nat}{es es' : List (List V)}{us:Array Value}(hos:w'.os=w.os)(hta:w'.tape=w.tape)(hou:w'.output=w.output)(hz:w.heap.size≤w'.heap.size)
  (hold:∀ k,k<w.heap.size→w'.heap[k]? = w.heap[k]?) (shp:ShKept w w') (hrow:w'.heap[w.heap.size]? = some (.cells us e (0,0))) (hus:us.size=cap*size) (hc1:es.length≤cap) (hc2:cap≤maxLen) (hs:∀ x ∈ es,x.length=size)
  (hel:∀ (i k:Nat) x c,es[i]? = some x→x[k]? = some c→∃ u,us[i*size+k]? = some u∧u.oneCell' = true∧VRel G.com w c u) (hle:LeLL es es') :
  ∃ G', Stp G w G' w' ∧ Rel N G' ⟨σ.env,⟨σ.s.heap,σ.s.live++[1]⟩⟩ a w' ∧ DRel G' w' (.x σ.s.live.length 1 (.sl e size es')) (.slice (some ⟨w.heap.size,0,none⟩) es.length cap):=by
 obtain⟨G1,s1,r1,t1,c1,n1⟩:=Qv9 hR;obtain⟨s2,i2⟩:=Qop r1.inv t1 rfl (Nat.zero_lt_one) (bk:=some w.heap.size) hos hta hou hz (fun k hk hne=>hold k hk) (fun g hg=>by cases hg; exact⟨(Array.getElem?_eq_some_iff.1 hrow).1,.inl (Nat.le_refl _)⟩) shp;rw[show(⟨σ.env,⟨σ.s.heap,σ.s.live++[0]⟩⟩:St).s.live.set σ.s.live.length 1 = σ.s.live++[1] from Q21 _ _] at i2;refine⟨_,s1.trans s2,⟨i2,r1.env.mono s2,hR.size⟩,?_⟩;refine .x _ 1 _ _ ⟨1,some w.heap.size,0,none⟩ (Qoq t1) rfl (Nat.le_refl _) rfl fun _=>?_
 rw[show es.length=es'.length from hle.1];refine .sl e size es' _ cap (fun h=>by cases h) (XRow.le ?_ hle);refine⟨hs,hc1,hc2,.inr ⟨_,us,rfl,rfl,rfl,hrow,hus,fun i k x c hx hc=>?_⟩⟩;obtain⟨u,q1,q2,q3⟩:=hel i k x c hx hc;refine⟨u,q1,q2,?_⟩;rw[← c1] at q3;exact q3.mono s2.ext.size s2.ext.com
theorem Qaho{N:Nat}{G:Gh}{σ : St}{a:Act}{w:World}(hR:Rel N G σ a w){e size:Nat}{es' : List (List V)}{ad:Option Addr}(hle:LeLL [] es')(had:∀ x,ad=some x→x.block<w.heap.size) :
  ∃ G', Stp G w G' w∧Rel N G' ⟨σ.env,⟨σ.s.heap,σ.s.live++[1]⟩⟩ a w∧DRel G' w (.x σ.s.live.length 1 (.sl e size es')) (.slice ad 0 0):=by
 obtain⟨G1,s1,r1,t1,c1,n1⟩:=Qv9 hR;obtain⟨s2,i2⟩:=Qop r1.inv t1 rfl (Nat.zero_lt_one) (bk:=none) rfl rfl rfl (Nat.le_refl _) (fun k hk hne=>rfl) (fun g hg=>by cases hg) (.refl w);rw[show(⟨σ.env,⟨σ.s.heap,σ.s.live++[0]⟩⟩:St).s.live.set σ.s.live.length 1 = σ.s.live++[1] from Q21 _ _] at i2;refine⟨_,s1.trans s2,⟨i2,r1.env.mono s2,hR.size⟩,?_⟩;have h0:es' = []:=List.eq_nil_of_length_eq_zero hle.1.symm;subst h0;exact .x _ 1 _ _ ⟨1,none,0,none⟩ (Qoq t1) rfl (Nat.le_refl _) rfl fun _ =>.sl e size [] ad 0 (fun _=>rfl) ⟨fun x hx=>(nomatch hx),Nat.le_refl _,Nat.zero_le _,.inl ⟨rfl,had⟩⟩
theorem Out.resX{N:Nat}{G:Gh}{σ : St}{a:Act}{w:World}(hR:Rel N G σ a w){sem:Sem Value}{u:Value}(hr:sem.run P w = .ok u w){d:D}(hd:DRel G w d u){K:D→St→Prop}(hK:K d σ):ResX N G a w ((sem>>=fun x=>Pure.pure (Next.value x):Sem Next).run P w) K :=
 ⟨u,w,G,d,σ,.inl (by simp[hr]),.refl G w,hR,hd,hK⟩
theorem Qqh{G:Gh}{s:S}{w:World}(hI:Inv G s w){t v:Nat}{X:XD}{u:Value}(h:DRel G w (.x t v X) u)(hl:s.live[t]? = some v):∃ T,G.tok[t]? = some T∧T.pro=none∧T.len=v∧XRel G.com w T X u:=by
 obtain⟨T1,g1,g2⟩:=Qahn hI hl;cases h with
 | x _ _ _ _ T h1 h0 h2 h3 h4 =>
  rw[h1] at g1;obtain rfl:=Option.some.inj g1;exact⟨_,h1,h0,g2,h4 g2.symm⟩
theorem Q80(hT:TblOk P tb){N:Nat}{G:Gh}{σ : St}{a:Act}{w:World}(hR:Rel N G σ a w){K:D→St→Prop}{t:Nat}{l c:D}{u v:Value}(hl:DRel G w l u)(hc:DRel G w c v)(h:Qajy tb t l c σ K) :
  ResX N G a w ((Instr.makeSlice t u v>>=fun x=>Pure.pure (Next.value x):Sem Next).run P w) K:=by
 unfold Qajy at h;split at h
 ·rename_i ti k n k' m ht;have e1:u = .int k n:=by cases hl with | p _ _ h=>cases h; rfl
  have e2:v = .int k' m:=by cases hc with | p _ _ h=>cases h; rfl
  subst e1; subst e2;split at h
  ·rename_i e hd;split at h
   ·rename_i te he;split at h
    ·rename_i x hx;split at h
     ·rename_i zs hzs;obtain⟨⟨z1,z2⟩,⟨h1,h2,h3,h4⟩,es', hle,hK⟩:=h;subst h2;obtain⟨z,hz,hzu⟩:=Option.bind_eq_some_iff.1 hzs;have hu:=hT.und ht;rw[hd] at hu;obtain⟨_,i,i1,i2,i3,i4,_⟩:=hT e te he;have hzr:CellsRel G w z te.zero.cells:=Qej (.p x _ (Qru hx)) hz;obtain⟨q1,q2⟩:=Qj6 (G:=G) (w:=w) z zs hzu;have hzsz:te.zero.cells.size=te.size:=by rw[hzr.1,← q1]; exact z1
      obtain⟨M,rfl⟩:∃ M:Nat,m=(M:Int):=⟨m.toNat,by omega⟩;have hr:=run_make (P:=P) w t e i te.zero hu i1 i4 k k' (M:Int) (M:Int) h1 (Int.le_refl _) (by rw[i3,Int.mul_comm]; omega) h4;rw[Int.toNat_natCast,i2] at hr;rw[Int.toNat_natCast] at hle;have hlen:(List.replicate M zs).length=M:=by simp
      obtain⟨G', s1,r1,d1⟩:=Qaa3 hR (w' := w.alloc (.cells (madeCells te.zero.cells (M*te.size)) e)) (e:=e) (size:=te.size) (cap:=M) (es:=List.replicate M zs) (us:=madeCells te.zero.cells (M*te.size)) rfl rfl rfl (by simp) (fun k hk=>by rw[Qgy,if_neg (by omega)]) (Q2l w _) (World.alloc_heap_new w _)
       (by simp[madeCells]) (by simp) (by unfold maxLen; omega) (fun y hy=>by rw[(List.mem_replicate.1 hy).2]; exact z1) (fun p b y c hy hc=>by
        have hy2:y=zs:=(List.mem_replicate.1 (List.mem_of_getElem? hy)).2;subst hy2;have ha:p<M:=by have:=(List.getElem?_eq_some_iff.1 hy).1; simpa using this
        have hb:b<te.size:=by rw[← z1]; exact(List.getElem?_eq_some_iff.1 hc).1
        have hlt:p*te.size+b<M*te.size:=by
         have:(p+1)*te.size≤M*te.size:=Nat.mul_le_mul_right _ ha;rw[Nat.add_mul] at this; omega
        have hmod:(p*te.size+b) % te.size=b:=by rw[Nat.mul_comm,Nat.mul_add_mod]; exact Nat.mod_eq_of_lt hb
        have hbs:b<te.zero.cells.size:=by omega
        obtain⟨d,d1,d2⟩:=q2 b c hc;have hcell:=hzr.2 b d te.zero.cells[b] d1 (Array.getElem?_eq_getElem hbs);refine⟨te.zero.cells[b],?_,hcell.1,Qih hcell.2 d2⟩;unfold madeCells;rw[Array.getElem?_map,Array.getElem?_range,if_pos hlt];simp only[Option.map_some,hzsz,hmod,Option.some.injEq];simp[hbs]) hle
      rw[hlen] at d1;exact⟨_,_,G', _,_,.inl (by simp[hr]),s1,r1,d1,hK⟩
     ·exact h.elim
    ·exact h.elim
   ·exact h.elim
  ·exact h.elim
 ·exact h.elim
theorem Q6m{C:Nat→Nat→Prop}{w:World}{es fs:List (List V)}{olds news:List Value}{size:Nat}(o1:olds.length=es.length*size)
  (o2:∀ (i k:Nat) e c,es[i]? = some e→e[k]? = some c→∃ u,olds[i*size+k]? = some u∧VRel C w c u) (n2:∀ (i k:Nat) e c,fs[i]? = some e→e[k]? = some c→∃ u,news[i*size+k]? = some u∧VRel C w c u)
  (o3:∀ u ∈ olds,u.oneCell' = true) (n3:∀ u ∈ news,u.oneCell' = true) (i k:Nat) (x:List V) (c:V) (hx:(es++fs)[i]? = some x) (hc:x[k]? = some c):∃ u,(olds++news)[i*size+k]? = some u∧u.oneCell' = true∧VRel C w c u:=by
 by_cases hi:i<es.length
 ·rw[List.getElem?_append_left hi] at hx;obtain⟨u,h1,h2⟩:=o2 i k x c hx hc;refine⟨u,?_,o3 u (List.mem_of_getElem? h1),h2⟩;rw[List.getElem?_append_left (List.getElem?_eq_some_iff.1 h1).1]; exact h1
 ·rw[List.getElem?_append_right (by omega)] at hx;obtain⟨u,h1,h2⟩:=n2 _ k x c hx hc;refine⟨u,?_,n3 u (List.mem_of_getElem? h1),h2⟩;have e1:i*size=es.length*size+(i-es.length)*size:=by rw[← Nat.add_mul]; congr 1; omega
  rw[List.getElem?_append_right (by rw[o1]; omega),o1,e1,show es.length*size+(i-es.length)*size+k-es.length*size=(i-es.length)*size+k by omega];exact h1
theorem Qacq(hT:TblOk P tb){N:Nat}{G:Gh}{σ : St}{a:Act}{w:World}(hR:Rel N G σ a w){K:D→St→Prop}(ty:TypeId){t:Nat}{x y:D}{u v:Value}(hx:DRel G w x u)(hy:DRel G w y v)(h:xApp tb t x y σ K) :
  ResX N G a w ((Builtin.append_ #[t,t] ty #[u,v]>>=fun x=>Pure.pure (Next.value x):Sem Next).run P w) K:=by
 unfold xApp at h;split at h
 ·rename_i ti fl fs ht hfs;have hy:=Qih hy hfs;obtain⟨ya,yc,rfl,d1,d2,-⟩:=hy.isSlice;split at h
  ·rename_i e hd;split at h
   ·rename_i te he;split at h
    ·rename_i hz;obtain⟨hz,hz0⟩:=hz;split at h
     ·rename_i tk vv e' sz es;split at h
      ·rename_i hes;obtain⟨rfl,rfl⟩:=hes;obtain⟨hl,⟨hfl,hby,hmax⟩,es', hle,hK⟩:=h;obtain⟨T,t1,t0,t2,hX⟩:=Qqh hR.inv hx hl;cases hX with
       | sl _ _ _ ad cap hna hrow =>
        obtain⟨w1,w2,w3,w4⟩:=hrow;by_cases hm:fs.length=0
        ·have hfs0:fs=[]:=List.eq_nil_of_length_eq_zero hm;subst hfs0;rw[List.append_nil] at hle;have hrun:(Builtin.append_ #[t,t] ty #[.slice ad es.length cap,.slice ya 0 yc]).run P w = .ok (.slice ad es.length cap) w:=Qlt hT w ty ht hd he ad es.length cap w2 ya yc;rcases w4 with ⟨w4,w5⟩ | ⟨b,us,w4,w5,w6,w7,w8,w9⟩
         ·obtain⟨s2,i2⟩:=Qop hR.inv t1 t0 (v:=vv+1) (by omega) (bk:=none) rfl rfl rfl (Nat.le_refl _) (fun k hk hne=>rfl) (fun g hg=>by cases hg) (.refl w);refine⟨.slice ad es.length cap,w,_,_,⟨σ.env,⟨σ.s.heap,σ.s.live.set tk (vv+1)⟩⟩,.inl (by simp[hrun]),s2,⟨i2,hR.env.mono s2,hR.size⟩,?_,hK⟩;refine .x _ _ _ _ ⟨vv+1,none,0,none⟩ (Qoq t1) rfl (Nat.le_refl _) rfl fun _=>?_
          rw[show es.length=es'.length from hle.1];exact .sl _ _ es' ad cap hna (XRow.le ⟨w1,w2,w3,.inl ⟨w4,w5⟩⟩ hle)
         ·obtain⟨s2,i2⟩:=Qop hR.inv t1 t0 (v:=vv+1) (by omega) (bk:=some b) rfl rfl rfl (Nat.le_refl _) (fun k hk hne=>rfl) (fun g hg=>by cases hg; exact⟨(hR.inv.tok tk T b t1 (.inl w5)).1,.inr ⟨w5,w6⟩⟩) (.refl w);refine⟨.slice ad es.length cap,w,_,_,⟨σ.env,⟨σ.s.heap,σ.s.live.set tk (vv+1)⟩⟩,.inl (by simp[hrun]),s2,⟨i2,hR.env.mono s2,hR.size⟩,?_,hK⟩;refine .x _ _ _ _ ⟨vv+1,some b,0,none⟩ (Qoq t1) rfl (Nat.le_refl _) rfl fun _=>?_
          rw[show es.length=es'.length from hle.1];exact .sl _ _ es' ad cap hna (XRow.le ⟨w1,w2,w3,.inr ⟨b,us,w4,rfl,rfl,w7,w8,w9⟩⟩ hle)
        ·have hz2:0<te.size:=hz0;obtain⟨news,n1,n2,n3,n4⟩:=hy.flat te.size hfl hz0;rcases n4 with n4 | ⟨b', off', rfl,n4⟩
         ·exact absurd n4 hm
         obtain⟨olds,o1,o2,o3,o4,own,hown,hT1⟩:∃ olds:List Value,olds.length=es.length*te.size∧(∀ (i k:Nat) e c,es[i]? = some e→e[k]? = some c→∃ u,olds[i*te.size+k]? = some u∧VRel G.com w c u)∧(∀ u ∈ olds,u.oneCell' = true) ∧
           (es.length=0∨∃ b off,ad=some ⟨b,off,none⟩∧∀ (j:Nat) u,olds[j]? = some u→w.cell? ⟨b,off+j,none⟩=some u) ∧
           ∃ own:Option Nat,(cap=es.length∨∃ (b:Nat) (us:Array Value),ad=some ⟨b,0,none⟩∧own=some b∧w.heap[b]? = some (.cells us e' (0,0))∧us.size=cap*te.size)∧(∀ g,own=some g→T.blk=some g∧T.cells=0):=by
          rcases w4 with ⟨w4,w5⟩ | ⟨b,us,w4,w5,w6,w7,w8,w9⟩
          ·have h0:es=[]:=List.eq_nil_of_length_eq_zero (by omega);subst h0;exact⟨[],by simp,fun i k e c h=>by simp at h,fun u h=>(nomatch h),.inl rfl,none,.inl (by simp[w4]),fun g h=>by cases h⟩
          ·have hle2:es.length*te.size≤us.size:=by rw[w8]; exact Nat.mul_le_mul_right _ w2
           have key:∀ (i k:Nat) e c,es[i]? = some e→e[k]? = some c→i*te.size+k<es.length*te.size:=fun i k e c he hc=>by
            have hi:=(List.getElem?_eq_some_iff.1 he).1;have hk:k<te.size:=by rw[← w1 e (List.mem_of_getElem? he)]; exact(List.getElem?_eq_some_iff.1 hc).1
            have:(i+1)*te.size≤es.length*te.size:=Nat.mul_le_mul_right _ hi;rw[Nat.add_mul] at this; omega
           refine⟨us.toList.take (es.length*te.size),by simp; omega,fun i k e c he hc=>?_,fun u hu=>?_,.inr ⟨b,0,w4,fun j u hj=>?_⟩,some b,.inr ⟨b,us,w4,rfl,w7,w8⟩,fun g hg=>by cases hg; exact⟨w5,w6⟩⟩
           ·obtain⟨u,q1,q2,q3⟩:=w9 i k e c he hc;refine⟨u,?_,q3⟩;rw[List.getElem?_take,if_pos (key i k e c he hc)];simpa using q1
           ·obtain⟨j,hj⟩:=List.getElem?_of_mem hu;rw[List.getElem?_take] at hj;split at hj
            ·rename_i hjl;have h1:j / te.size<es.length:=Nat.div_lt_of_lt_mul (by rw[Nat.mul_comm]; exact hjl);have h2:j % te.size<(es[j / te.size]).length:=by rw[w1 _ (List.getElem_mem h1)]; exact Nat.mod_lt _ hz0
             obtain⟨u', q1,q2,q3⟩:=w9 (j / te.size) (j % te.size) _ _ (List.getElem?_eq_getElem h1) (List.getElem?_eq_getElem h2);have e1:j / te.size*te.size+j % te.size=j:=by rw[Nat.mul_comm]; exact Nat.div_add_mod j te.size
             rw[e1] at q1;have:us[j]? = some u:=by simpa using hj
             rw[q1] at this;cases this;exact q2
            ·cases hj
           ·rw[List.getElem?_take] at hj;split at hj
            ·rw[cell_of_row w b _ us e' (0,0) w7,Nat.zero_add]; simpa using hj
            ·cases hj
         obtain⟨g,cap', w', hr,hG⟩:=Qrw hT w ty ht hd he hz ad es.length cap olds o1 o4 hna w2 w3 own hown b' off' fs.length yc news n1 (fun j u hj=>(n4 j u hj).1) n3 (by omega) (by unfold maxLen; exact hmax) hby
         obtain⟨cur,r1,r2,r3⟩:=hG.row0;have hgw:w.heap.size≤g∨(T.blk=some g∧T.cells=0):=hG.which.imp (fun h=>by omega) (hT1 g);obtain⟨s2,i2⟩:=Qop hR.inv t1 t0 (v:=vv+1) (by omega) (bk:=some g) hG.os hG.tape hG.output hG.size_le (fun k hk hne=>hG.old k hk fun e=>hne (by rw[e])) (fun g' hg' => by cases hg'; exact⟨(Array.getElem?_eq_some_iff.1 r1).1,hgw⟩) hG.shp;refine⟨.slice (some ⟨g,0,none⟩) (es.length+fs.length) cap', w', _,_,⟨σ.env,⟨σ.s.heap,σ.s.live.set tk (vv+1)⟩⟩,.inl (by simp[hr]),s2,⟨i2,hR.env.mono s2,hR.size⟩,?_,hK⟩;refine .x _ _ _ _ ⟨vv+1,some g,0,none⟩ (Qoq t1) rfl (Nat.le_refl _) rfl fun _=>?_
         rw[show es.length+fs.length=es'.length by rw[← hle.1,List.length_append]];refine .sl _ _ es' _ cap' (fun h=>by cases h) (XRow.le (es:=es++fs) ⟨fun x hx=>(List.mem_append.1 hx).elim (w1 x) (hfl x),by simpa using hG.fits,hG.max,.inr ⟨g,cur,rfl,rfl,rfl,r1,r2,fun i k x c hx' hc=>?_⟩⟩ hle);obtain⟨u,p1,p2,p3⟩:=Q6m o1 o2 n2 o3 n3 i k x c hx' hc;refine⟨u,?_,p2,p3.mono s2.ext.size s2.ext.com⟩;rw[← r3,List.getElem?_take] at p1;split at p1
         ·simpa using p1
         ·cases p1
      ·exact h.elim
     ·rename_i es;obtain⟨hc0,hes,⟨hfl,hby,hmax⟩,es', hle,hK⟩:=h;have hx:VRel G.com w (.sl true es) u:=by cases hx with | p _ _ hx=>exact hx
      obtain⟨xa,xc,rfl,c1,c2,c3,c4⟩:=hx.isSlice;by_cases hm:fs.length=0
      ·have hfs0:fs=[]:=List.eq_nil_of_length_eq_zero hm;have hes0:es=[]:=List.eq_nil_of_length_eq_zero (by omega);subst hfs0; subst hes0;have hxc:xc=0:=c3 rfl;subst hxc;obtain⟨G', s1,r1,d1⟩:=Qaho hR (e:=e) (size:=te.size) hle (c4 rfl);exact⟨_,w,G', _,_,.inl (by simp[Qlt hT w ty ht hd he xa 0 0 (Nat.le_refl _) ya yc]),s1,r1,d1,hK⟩
      ·obtain⟨olds,o1,o2,o3,o4⟩:=hx.flat te.size hes hz0;obtain⟨news,n1,n2,n3,n4⟩:=hy.flat te.size hfl hz0;rcases n4 with n4 | ⟨b', off', rfl,n4⟩
       ·exact absurd n4 hm
       have ha:xa=none→xc=0:=fun h0=>by
        cases hx with
        | sl _ _ _ _ _ _ _ _ _ _ _ _ g5=>exact g5 h0
       obtain⟨g,cap', w', hr,hG⟩:=Qrw hT w ty ht hd he hz xa es.length xc olds o1 (o4.imp id fun⟨b,off,q1,q2⟩=>⟨b,off,q1,fun j u hj=>(q2 j u hj).1⟩) ha c1 c2 none (.inl (c3 rfl)) b' off' fs.length yc news n1 (fun j u hj=>(n4 j u hj).1) n3 (by omega) (by unfold maxLen; exact hmax) hby
       have hg:g=w.heap.size:=by rcases hG.which with h | h; exact h; cases h
       subst hg;obtain⟨cur,r1,r2,r3⟩:=hG.row0;obtain⟨G', s1,rr,dd⟩:=Qaa3 hR (e:=e) (size:=te.size) (cap:=cap') (es:=es++fs) (us:=cur) hG.os hG.tape hG.output hG.size_le (fun k hk=>hG.old k hk (by omega)) hG.shp r1 r2 (by simpa using hG.fits) hG.max
        (fun x hx=>(List.mem_append.1 hx).elim (hes x) (hfl x)) (fun i k x c hx' hc=>by
         obtain⟨u,p1,p2,p3⟩:=Q6m o1 o2 n2 o3 n3 i k x c hx' hc;refine⟨u,?_,p2,p3⟩;rw[← r3,List.getElem?_take] at p1;split at p1
         ·simpa using p1
         ·cases p1) hle
       rw[List.length_append] at dd;exact⟨_,w', G', _,_,.inl (by simp[hr]),s1,rr,dd,hK⟩
     ·exact h.elim
    ·exact h.elim
   ·exact h.elim
  ·exact h.elim
 ·exact h.elim
theorem Q6n(hT:TblOk P tb){N:Nat}{G:Gh}{σ : St}{a:Act}{w:World}(hR:Rel N G σ a w){K:D→St→Prop}{t:Nat}{x i:D}{u v:Value}(hx:DRel G w x u)(hi:DRel G w i v)(h:Qyv tb t x i σ K) :
  ResX N G a w ((Instr.indexAt t u v>>=fun x=>Pure.pure (Next.value x):Sem Next).run P w) K:=by
 unfold Qyv at h;split at h
 ·rename_i ti k n tk vv e sz es ht;have hv:v = .int k n:=by cases hi with | p x u hi=>cases hi; rfl
  subst hv;split at h
  ·rename_i e' hd;split at h
   ·rename_i te he;split at h
    ·rename_i hsz;subst hsz;obtain⟨hl,c,h0,hc,hcl,hz,hK⟩:=h;obtain⟨T1,t1,t0,t2,hX⟩:=Qqh hR.inv hx hl;have hu:=hT.und ht;rw[hd] at hu;cases hX with
     | sl _ _ _ ad cap hna hrow =>
      have hlt:n<es.length:=by have:=(List.getElem?_eq_some_iff.1 hc).1; omega
      have hr0:=hrow;obtain⟨w1,w2,w3,w4⟩:=hrow;rcases w4 with ⟨w4,-⟩ | ⟨b,us,rfl,w5,w6,w7,w8,w9⟩
      ·omega
      ·have hr:(Instr.indexAt t (.slice (some ⟨b,0,none⟩) es.length cap) (.int k n)).run P w = .ok (.pointer (some ⟨b,n.toNat*te.size,none⟩)) w:=by
        simp[Instr.indexAt,run_underlying hu,asIntOf,h0,hlt,hT.sz he,Qqc]
       refine Out.resX hR hr ?_ hK;exact .x _ _ _ _ T1 t1 t0 (by omega) rfl fun _ =>.el _ _ es n.toNat c 0 b cap hc hr0
    ·exact h.elim
   ·exact h.elim
  ·exact h.elim
 ·exact h.elim
theorem Q81(hT:TblOk P tb){N:Nat}{G:Gh}{σ : St}{a:Act}{w:World}(hR:Rel N G σ a w){K:D→St→Prop}{t:Nat}{x:D}{u:Value}(hx:DRel G w x u)(h:Q8y tb t x σ K) :
  ResX N G a w ((Instr.loadAt t u>>=fun x=>Pure.pure (Next.value x):Sem Next).run P w) K:=by
 unfold Q8y at h;split at h
 ·rename_i ti tk vv e sz es i c off ht;obtain⟨hl,hlen,h⟩:=h;obtain⟨T1,t1,t0,t2,hX⟩:=Qqh hR.inv hx hl;cases hX with
  | el _ _ _ _ _ _ b cap hc hrow =>
   obtain⟨w1,w2,w3,w4⟩:=hrow;have hi:=(List.getElem?_eq_some_iff.1 hc).1;rcases w4 with ⟨w4,-⟩ | ⟨b', us,hb,w5,w6,w7,w8,w9⟩
   ·omega
   ·cases hb;have hcs:=w1 c (List.mem_of_getElem? hc);have cell:∀ j (hj:j<c.length),∃ u', us[i*sz+j]? = some u' ∧ u'.oneCell' = true∧VRel G.com w c[j] u' := fun j hj=>w9 i j c c[j] hc (List.getElem?_eq_getElem hj)
    have hle:i*sz+sz≤us.size:=by
     have:(i+1)*sz≤cap*sz:=Nat.mul_le_mul_right _ (by omega);rw[Nat.add_mul] at this; omega
    have hcell:∀ (j:Nat) u,((us.toList.drop (i*sz+off)).take (c.length-off))[j]? = some u→w.cell? ⟨b,i*sz+off+j,none⟩=some u:=fun j u hu=>by
     rw[cell_of_row w b _ us e (0,0) w7];rw[List.getElem?_take] at hu;split at hu
     ·rw[List.getElem?_drop] at hu; simpa using hu
     ·cases hu
    have hll:((us.toList.drop (i*sz+off)).take (c.length-off)).length=c.length-off:=by simp; omega
    have get:∀ (j:Nat) y u,(c.drop off)[j]? = some y→((us.toList.drop (i*sz+off)).take (c.length-off))[j]? = some u→u.oneCell' = true∧VRel G.com w y u:=fun j y u hy hu=>by
     rw[List.getElem?_drop] at hy;obtain⟨hj,hy⟩:=List.getElem?_eq_some_iff.1 hy;obtain⟨u', q1,q2,q3⟩:=cell (off+j) hj;rw[List.getElem?_take,if_pos (by omega),List.getElem?_drop] at hu;have hu:us[i*sz+(off+j)]? = some u:=by rw[← Nat.add_assoc]; simpa using hu
     rw[q1] at hu;cases hu;rw[← hy];exact⟨q2,q3⟩
    obtain⟨r1,r2⟩:=Qny hT ht w b (i*sz+off) _ hcell;unfold Qyh at h;split at h
    ·rename_i ha;split at h
     ·rename_i hl2;refine Out.resX hR (r1 ha (by rw[hll]; omega)) ?_ h;refine .p _ _ (.agg _ _ (by simp only[List.length_take,List.size_toArray,hll,List.length_drop]) (fun j y u hc' hu=>?_) (fun j y u hc' hu=>?_))
      all_goals
       rw[List.getElem?_take] at hc';split at hc'
       ·rename_i hj;have hu2:(((us.toList.drop (i*sz+off)).take (c.length-off)).take ti.size)[j]? = some u:=by simpa using hu
        rw[List.getElem?_take,if_pos hj] at hu2
        first
         | exact(get j y u hc' hu2).1
         | exact(get j y u hc' hu2).2
       ·cases hc'
     ·exact h.elim
    ·rename_i ha;split at h
     ·rename_i y r hy;have h0:0<c.length-off:=by have:=congrArg List.length hy; simp at this; omega
      have hlt:0<((us.toList.drop (i*sz+off)).take (c.length-off)).length:=by rw[hll]; exact h0
      refine Out.resX hR (r2 ha _ (List.getElem?_eq_getElem hlt)) ?_ h;exact .p _ _ (get 0 y _ (by rw[hy]; rfl) (List.getElem?_eq_getElem hlt)).2
     ·exact h.elim
 ·exact h.elim
theorem Q6o(hT:TblOk P tb){N:Nat}{G:Gh}{σ : St}{a:Act}{w:World}(hR:Rel N G σ a w){K:D→St→Prop}{t f:Nat}{x:D}{u:Value}(hx:DRel G w x u)(h:Qyw tb t x f σ K) :
  ResX N G a w ((Instr.fieldAt t u f>>=fun x=>Pure.pure (Next.value x):Sem Next).run P w) K:=by
 unfold Qyw at h;split at h
 ·rename_i ti tk vv e sz es i c off ht;split at h
  ·rename_i fields hd;split at h
   ·rename_i fd hf;split at h
    ·rename_i tf htf;split at h
     ·exact h.elim
     ·rename_i hz;obtain⟨hl,h⟩:=h;obtain⟨T1,t1,t0,t2,hX⟩:=Qqh hR.inv hx hl;cases hX with
      | el _ _ _ _ _ _ b cap hc hrow =>
       have hu:=hT.und ht;rw[hd] at hu;have hr:(Instr.fieldAt t (.pointer (some ⟨b,i*sz+off,none⟩)) f).run P w = .ok (.pointer (some ⟨b,i*sz+(off+fd.offset),none⟩)) w:=by
        simp[Instr.fieldAt,run_underlying hu,hf,Instr.sureAddr,fieldPlace,hT.sz htf,hz,Qqc,Nat.add_assoc]
       refine Out.resX hR hr ?_ h;exact .x _ _ _ _ T1 t1 t0 (by omega) rfl fun _ =>.el _ _ es i c (off+fd.offset) b cap hc hrow
    ·exact h.elim
   ·exact h.elim
  ·exact h.elim
 ·exact h.elim
theorem Qacr(hT:TblOk P tb){N:Nat}{G:Gh}{σ : St}{a:Act}{w:World}(hR:Rel N G σ a w){K:D→St→Prop}(ty:TypeId){t:Nat}{x:D}{u:Value}(hx:DRel G w x u)(h:xLen tb t x σ K) :
  ResX N G a w ((Builtin.len_ #[t] ty #[u]>>=fun x=>Pure.pure (Next.value x):Sem Next).run P w) K:=by
 unfold xLen at h;split at h
 ·rename_i ti tk vv e sz es ht;split at h
  ·rename_i e' hd;obtain⟨hl,n,hn,hK⟩:=h;obtain⟨T1,t1,t0,t2,hX⟩:=Qqh hR.inv hx hl;have hu:=hT.und ht;rw[hd] at hu;cases hX with
   | sl _ _ _ ad cap hna hrow =>
    have hr:(Builtin.len_ #[t] ty #[.slice ad es.length cap]).run P w = .ok (.int .i64 n) w:=by simp[Builtin.len_,run_underlying hu,goInt,hn]
    exact Out.resX hR hr (.p _ _ (.v _ rfl)) hK
  ·exact h.elim
 ·exact h.elim
theorem Q6p(hT:TblOk P tb){N:Nat}{G:Gh}{σ : St}{a:Act}{w:World}(hR:Rel N G σ a w){K:D→St→Prop}{hm:Home}{t:Nat}{x y:D}{u v:Value}(hx:DRel G w x u)(hy:DRel G w y v)(h:Qaem tb hm t x y σ K) :
  ∃ w' G' σ', (Instr.storeAt t u v).run P w = .ok () w' ∧ Stp G w G' w' ∧ Rel N G' σ' a w' ∧ K .undef σ' := by
 unfold Qaem at h;split at h
 ·rename_i ti tk vv e sz es i c off vs ht hvs;obtain⟨hvl,hoff,hl,hg,es', hle,hK⟩:=h;obtain⟨T1,t1,t0,t2,hX⟩:=Qqh hR.inv hx hl;cases hX with
  | el _ _ _ _ _ _ b cap hc hrow =>
   obtain⟨w1,w2,w3,w4⟩:=hrow;have hi:=(List.getElem?_eq_some_iff.1 hc).1;rcases w4 with ⟨w4,-⟩ | ⟨b', us,hb,w5,w6,w7,w8,w9⟩
   ·omega
   ·cases hb;obtain⟨z,hz,hzu⟩:=Option.bind_eq_some_iff.1 hvs;have hr:=Qej hy hz;obtain⟨q1,q2⟩:=Qj6 (G:=G) (w:=w) z vs hzu;have hcs:=w1 c (List.mem_of_getElem? hc);have hlen:v.cells.toList.length=vs.length:=by rw[Array.length_toList,hr.1,q1]
    have hle2:i*sz+sz≤us.size:=by
     have:(i+1)*sz≤cap*sz:=Nat.mul_le_mul_right _ (by omega);rw[Nat.add_mul] at this; omega
    have vcell:∀ (j:Nat) y u,vs[j]? = some y→v.cells[j]? = some u→u.oneCell' = true∧VRel G.com w y u:=fun j y u hy hu=>by
     obtain⟨d,d1,d2⟩:=q2 j y hy;have:=hr.2 j d u d1 hu;exact⟨this.1,Qih this.2 d2⟩
    have hst:=run_storeCells_at P b (i*sz+off) e v.cells.toList 0 us w w7 (by rw[hlen]; omega) (fun x hx=>by
     obtain⟨j,hj⟩:=List.getElem?_of_mem hx;have hj2:j<vs.length:=by rw[← hlen]; exact(List.getElem?_eq_some_iff.1 hj).1
     exact(vcell j vs[j] x (List.getElem?_eq_getElem hj2) (by simpa using hj)).1)
    simp only[Nat.add_zero] at hst;generalize hus' : (us.toList.take (i*sz+off)++v.cells.toList++us.toList.drop (i*sz+off+v.cells.toList.length)).toArray=us' at hst;have hus's:us'.size=us.size:=by rw[← hus']; simp only[List.size_toArray,List.length_append,List.length_take,List.length_drop,hlen,Array.length_toList]; omega
    have hrun:(Instr.storeAt t (.pointer (some ⟨b,i*sz+off,none⟩)) v).run P w = .ok () (w.setRow b us'):=by
     have e:v.cells.size=ti.size:=by rw[hr.1,← q1]; exact hvl
     simp only[Instr.storeAt,Instr.sureAddr,storeVar,Sem.run_bind,Sem.run_pure,Result.andThen_ok,hT.sz ht,e];simpa using hst
    obtain⟨s2,i2⟩:=Qop hR.inv (w' := w.setRow b us') t1 t0 (v:=vv+1) (by omega) (bk:=some b) rfl rfl rfl (by simp[World.setRow]) (fun k hk hne=>setRow_other w b k _ fun e=>hne (by rw[e])) (fun g hg=>by
     cases hg;exact⟨by simp only[World.setRow,Array.size_modify]; exact(Array.getElem?_eq_some_iff.1 w7).1,.inr ⟨w5,w6⟩⟩) (Qrv w7 hus's)
    have hnew:(w.setRow b us').heap[b]? = some (.cells us' e (0,0)):=setRow_heap w b us us' e (0,0) w7;have hbn:b ∉ G.name:=(hR.inv.tok tk T1 b t1 (.inl w5)).2.1;have cells' : ∀ (i' k:Nat) x y,(es.set i (xput c vs off))[i']? = some x→x[k]? = some y→∃ u,us'[i' * sz+k]? = some u∧u.oneCell' = true∧VRel G.com w y u:=fun i' k x y hx' hy' => by
     have hgo:∀ j,us'[j]? = (us.toList.take (i*sz+off)++(v.cells.toList++us.toList.drop (i*sz+off+v.cells.toList.length)))[j]? := fun j=>by rw[← hus', List.getElem?_toArray,List.append_assoc]
     have t1l:(us.toList.take (i*sz+off)).length=i*sz+off:=by simp; omega
     by_cases hii:i' = i
     ·subst hii;rw[List.getElem?_set_self hi] at hx';cases hx';have hxl:(xput c vs off).length=c.length:=by unfold xput; simp only[List.length_append,List.length_take,List.length_drop]; omega
      have hk:k<c.length:=by rw[← hxl]; exact(List.getElem?_eq_some_iff.1 hy').1
      have t2:(c.take off).length=off:=by simp; omega
      unfold xput at hy';rw[List.append_assoc] at hy';by_cases h1:k<off
      ·rw[List.getElem?_append_left (by omega),List.getElem?_take,if_pos h1] at hy';obtain⟨u,p1,p2⟩:=w9 i' k c y hc hy';refine⟨u,?_,p2⟩;rw[hgo,List.getElem?_append_left (by omega),List.getElem?_take,if_pos (by omega)];simpa using p1
      ·rw[List.getElem?_append_right (by omega),t2] at hy';by_cases h2:k-off<vs.length
       ·rw[List.getElem?_append_left h2] at hy';have hk2:k-off<v.cells.size:=by rw[← Array.length_toList,hlen]; exact h2
        refine⟨v.cells[k-off],?_,vcell _ y _ hy' (Array.getElem?_eq_getElem hk2)⟩;rw[hgo,List.getElem?_append_right (by omega),t1l,show i' * sz+k-(i' * sz+off)=k-off by omega,List.getElem?_append_left (by rw[hlen]; exact h2)];simp[hk2]
       ·rw[List.getElem?_append_right (by omega),List.getElem?_drop] at hy';rw[show off+vs.length+(k-off-vs.length)=k by omega] at hy';obtain⟨u,p1,p2⟩:=w9 i' k c y hc hy';refine⟨u,?_,p2⟩;rw[hgo,List.getElem?_append_right (by omega),t1l,List.getElem?_append_right (by rw[hlen]; omega),hlen,List.getElem?_drop,show i' * sz+off+vs.length+(i' * sz+k-(i' * sz+off)-vs.length)=i' * sz+k by omega];simpa using p1
     ·rw[List.getElem?_set_ne (fun e=>hii e.symm)] at hx';obtain⟨u,p1,p2⟩:=w9 i' k x y hx' hy';refine⟨u,?_,p2⟩;have hk:k<sz:=by rw[← w1 x (List.mem_of_getElem? hx')]; exact(List.getElem?_eq_some_iff.1 hy').1
      rcases Nat.lt_or_gt_of_ne hii with h1 | h1
      ·have:(i' + 1)*sz≤i*sz:=Nat.mul_le_mul_right _ h1;rw[Nat.add_mul] at this;rw[hgo,List.getElem?_append_left (by omega),List.getElem?_take,if_pos (by omega)];simpa using p1
      ·have:(i+1)*sz≤i' * sz:=Nat.mul_le_mul_right _ h1;rw[Nat.add_mul] at this;rw[hgo,List.getElem?_append_right (by omega),t1l,List.getElem?_append_right (by rw[hlen]; omega),hlen,List.getElem?_drop,show i*sz+off+vs.length+(i' * sz+k-(i*sz+off)-vs.length)=i' * sz+k by omega];simpa using p1
    have hrel:=Qaa2 hR s2 (live' := σ.s.live.set tk (vv+1)) i2 rfl (fun b' hb' => setRow_other w b b' _ fun e=>hbn (e ▸ hb')) hg (d1 :=.x tk (vv+1) (.sl e sz es')) (fun u hu=>by
     obtain⟨T2,x1,x0,x2,hX2⟩:=Qqh hR.inv hu hl;rw[t1] at x1;obtain rfl:=Option.some.inj x1;cases hX2 with
     | sl _ _ _ ad cap' hna hrow' =>
      obtain⟨v1,v2,v3,v4⟩:=hrow';rcases v4 with ⟨v4,-⟩ | ⟨b2,us2,rfl,v5,v6,v7,v8,v9⟩
      ·omega
      ·rw[w5] at v5;cases v5;rw[w7] at v7;cases v7;refine⟨.x _ _ _ _ ⟨vv+1,some b,0,none⟩ (Qoq t1) rfl (Nat.le_refl _) rfl fun _=>?_,rfl⟩;have hlen' : es.length=es'.length:=by rw[← hle.1]; simp
       rw[hlen'];refine .sl e sz es' _ cap' (fun h=>by cases h) (XRow.le (es:=es.set i (xput c vs off)) ⟨fun x hx=>?_,by simpa using v2,v3,.inr ⟨b,us', rfl,rfl,rfl,hnew,by rw[hus's]; exact v8,fun i' k x y hx hy=>?_⟩⟩ hle)
       ·rcases List.mem_or_eq_of_mem_set hx with hx | rfl
        ·exact w1 x hx
        ·unfold xput; simp only[List.length_append,List.length_take,List.length_drop]; omega
       ·obtain⟨u,p1,p2,p3⟩:=cells' i' k x y hx hy;exact⟨u,p1,p2,p3.mono s2.ext.size s2.ext.com⟩)
    exact⟨_,_,_,hrun,s2,hrel,hK⟩
 ·exact h.elim
set_option maxHeartbeats 1000000 in
theorem Qacs(hT:TblOk P tb){N:Nat}{G:Gh}{σ : St}{a:Act}{w:World}(hR:Rel N G σ a w){K:D→St→Prop}{src dst:Nat}{x:D}{u:Value}(hx:DRel G w x u)(h:xS2B tb src dst x σ K) :
  ResX N G a w ((convert src dst u>>=fun x=>Pure.pure (Next.value x):Sem Next).run P w) K:=by
 unfold xS2B at h;split at h
 ·rename_i ti tu z h1 h2;have e1:u = .string z:=by cases hx with | p x u hx=>cases hx; rfl
  subst e1;split at h
  ·rename_i e hs hd;split at h
   ·rename_i te he;split at h
    ·rename_i hb;obtain⟨-,hm,d', live,hle', hn,hK⟩:=h;have hm:z.size≤maxLen:=by simpa [Qat] using hm
     have hn:live = σ.s.live++[z.size]:=by simpa [Qat] using hn
     subst hn;have u1:=hT.und h1;have u2:=hT.und h2;have u3:=hT.und he;rw[hd] at u2; rw[hs] at u1; rw[hb] at u3;have hr:=run_bytes_of_string (P:=P) w src dst e z u1 u2 u3;obtain⟨C,hC⟩:∃ C,C=bytesRow z (grownCap w z.size 0 e):=⟨_,rfl⟩;rw[← hC] at hr;have hle:z.size≤grownCap w z.size 0 e:=grownCap_ge w z.size 0 e;have hcap:=grownCap_le_maxLen w z.size 0 e hm;have hCs:C.size=grownCap w z.size 0 e:=by rw[hC]; simp only[bytesRow,Array.size_append,Array.size_map,Array.size_replicate]; show z.size+_=_; omega
     obtain⟨k1,k2⟩:=Q2r (hR.inv.drewN (w.drawn+1)) C e (C.size,C.size+1) z.size z.size;have kk:=(Stp.drewN G w (w.drawn+1)).trans k1;have hlen:((Qat z).map Qey).length=z.size:=by simp[Qat]
     refine⟨_,_,_,d', ⟨σ.env,⟨σ.s.heap,σ.s.live++[z.size]⟩⟩,.inl (by rw[Sem.run_bind,hr]; rfl),kk,⟨k2,hR.env.mono kk,hR.size⟩,?_,hK⟩;have hll:G.tok.length = σ.s.live.length:=Qaa1 hR.inv;have htok:(G.tok++[(⟨z.size,some w.heap.size,z.size,none⟩:Tok)])[σ.s.live.length]? = some ⟨z.size,some w.heap.size,z.size,none⟩:=by rw[← hll]; exact List.getElem?_concat_length
     have hv:=Qrx (C:=fun b o=>G.com b o∨(b=w.heap.size∧o<z.size)) (w:=w.drew.alloc (.cells C e (C.size,C.size+1))) w.heap.size C e (C.size,C.size+1) (heap_alloc_new w.drew _) ((Qat z).map Qey) 1 (grownCap w z.size 0 e) (fun o ho =>.inr ⟨rfl,by rw[hlen] at ho; omega⟩) false (by rw[hlen]; exact hle) hcap (fun h0=>by cases h0) (fun x hx=>by
      obtain⟨c,-,rfl⟩:=List.mem_map.1 hx; rfl) (fun i k x c hx hc=>by
      rw[List.getElem?_map] at hx;obtain⟨y,hy,rfl⟩:=Option.map_eq_some_iff.1 hx;have hk:k=0:=by have:=(List.getElem?_eq_some_iff.1 hc).1; simp[Qey] at this; exact this
      subst hk;have hcx:c = .v (.int .u8 y.toNat):=by simpa [Qey] using hc.symm
      subst hcx;refine⟨.int .u8 y.toNat,?_,rfl,.v _ rfl⟩;have hi:i<z.data.size:=by have:=(List.getElem?_eq_some_iff.1 hy).1; simpa [Qat] using this
      have hx2:z.data[i]? = some y:=by simpa [Qat] using hy
      rw[Nat.mul_one,Nat.add_zero,hC,bytesRow,Array.getElem?_append_left (by simpa using hi)];simp[hx2])
     rw[hlen] at hv;refine DRel.le ?_ hle';refine .own _ _ _ _ _ ⟨z.size,some w.heap.size,z.size,none⟩ (by rw[← hlen] at hv ⊢; exact hv) (fun x hx=>by obtain⟨c,-,rfl⟩:=List.mem_map.1 hx; rfl) htok rfl (by rw[hlen]; exact Nat.le_refl _) (fun _=>?_);refine⟨some ⟨w.heap.size,0,none⟩,grownCap w z.size 0 e,by rw[hlen],.inr (.inl ⟨w.heap.size,C,_,rfl,htok,rfl,by rw[hlen,Nat.mul_one],?_,by rw[hCs,Nat.mul_one]⟩)⟩;rw[Q1s];exact⟨_,heap_alloc_new w.drew _,.inr ⟨decide_eq_true (by omega),rfl⟩⟩
    ·exact h.elim
   ·exact h.elim
  ·exact h.elim
 ·exact h.elim
theorem Q82(hT:TblOk P tb){N:Nat}{G:Gh}{σ : St}{a:Act}{w:World}(hR:Rel N G σ a w){hm:Home}{K:D→St→Prop}(o:Oper)(h:Q8z tb hm o.op σ K) :
  ResX N G a w ((execOp a.eval o).run P w) K:=by
 have hev:=Q10 hR.env;unfold execOp;unfold Q8z at h;split at h
 ·rename_i src dst x ho;simp only[ho];split at h
  ·rename_i d hd;exact Qacs hT hR (hev _ _ hd) h
  ·exact h.elim
 ·rename_i t x y ho;simp only[ho];split at h
  ·rename_i p q hp hq;exact Q80 hT hR (hev _ _ hp) (hev _ _ hq) h
  ·exact h.elim
 ·rename_i t x ho;simp only[ho];split at h
  ·rename_i d hd;exact Q81 hT hR (hev _ d hd) h
  ·exact h.elim
 ·rename_i t x y ho;simp only[ho];split at h
  ·rename_i p q hp hq;obtain⟨w', G', σ', hr,r1,r2,r3⟩:=Q6p hT hR (hev _ _ hp) (hev _ _ hq) h;exact⟨undef,w', G', .undef,σ', .inr ⟨by simp[hr],rfl⟩,r1,r2,.undef,r3⟩
  ·exact h.elim
 ·rename_i x ho;simp only[ho];split at h
  ·rename_i tk v e sz es i c off hd;obtain⟨hl,h⟩:=h;have hr:=hev _ _ hd;obtain⟨T1,t1,t0,t2,hX⟩:=Qqh hR.inv hr hl;cases hr2:a.eval x with
   | pointer p =>
    rw[hr2] at hr hX;cases p with
    | none=>cases hX
    | some p=>exact⟨_,w,G,_,σ,.inl rfl,.refl G w,hR,hr,h⟩
   | _=>rw[hr2] at hX; cases hX
  ·exact h.elim
 ·rename_i t x f ho;simp only[ho];split at h
  ·rename_i d hd;exact Q6o hT hR (hev _ _ hd) h
  ·exact h.elim
 ·rename_i t x i ho;simp only[ho];split at h
  ·rename_i p q hp hq;exact Q6n hT hR (hev _ _ hp) (hev _ _ hq) h
  ·exact h.elim
 ·rename_i c ho;simp only[ho];split at h
  ·rename_i x t hc hx ht;obtain⟨e1,e2⟩:=Qii hev _ _ hx;have hargs:∃ x1,c.args = #[x1]:=by
    have:c.args.toList.length=1:=by rw[← e1]; rfl
    match h:c.args.toList,this with
    | [x1],_=>exact⟨x1,by rw[← Array.toArray_toList (xs:=c.args),h]⟩
   obtain⟨x1,hargs⟩:=hargs;have htys:c.argTypes = #[t]:=by rw[← Array.toArray_toList (xs:=c.argTypes),ht]
   have hd:=e2 0 x (a.eval x1) rfl (by rw[hargs]; rfl);have:=Qacr hT hR o.type hd h;simpa [resolve,hc,invoke,builtin,hargs,htys] using this
  ·rename_i x y t t' hc hx ht;split at h
   ·rename_i htt;subst htt;obtain⟨e1,e2⟩:=Qii hev _ _ hx;have hargs:∃ x1 y1,c.args = #[x1,y1]:=by
     have:c.args.toList.length=2:=by rw[← e1]; rfl
     match h:c.args.toList,this with
     | [x1,y1],_=>exact⟨x1,y1,by rw[← Array.toArray_toList (xs:=c.args),h]⟩
    obtain⟨x1,y1,hargs⟩:=hargs;have htys:c.argTypes = #[t,t]:=by rw[← Array.toArray_toList (xs:=c.argTypes),ht]
    have hd:=e2 0 x (a.eval x1) rfl (by rw[hargs]; rfl);have hd2:=e2 1 y (a.eval y1) rfl (by rw[hargs]; rfl);have:=Qacq hT hR o.type hd hd2 h;simpa [resolve,hc,invoke,builtin,hargs,htys] using this
   ·exact h.elim
  ·exact h.elim
 ·exact h.elim
def xOne(tb:Tbl)(N:Nat)(ops:List Oper)(i:Nat)(hm:Home)(σ : St)(K:St→Prop):Prop :=
 match ops[i]? with
 | none=>False
 | some o=>match Q2t ops σ.env o.guard with
  | some true=>Q8z tb hm o.op σ fun d σ' => putE N σ'.env o.dst d fun env' => K ⟨env', σ'.s⟩
  | some false=>putE N σ.env o.dst .undef fun env' => K ⟨env', σ.s⟩
  | none=>False
theorem Qr2(hT:TblOk P tb){rd:Option Nat}{N:Nat}{G:Gh}{σ : St}{a:Act}{w:World}(hR:Rel N G σ a w){ops:List Oper}{i:Nat}{hm:Home}{K:St→Prop}(h:xOne tb N ops i hm σ K)
  {next:Act→World→Prop} {Q:Exit→Act→World→Prop} (hn:∀ a' w' G' σ', Stp G w G' w' → Rel N G' σ' a' w' → a'.defers=a.defers→K σ' → next a' w'):wpOpIn (FW rd) 0 P ops.toArray Q i next a w:=by
 unfold xOne at h;unfold wpOpIn;split at h
 ·exact h.elim
 ·rename_i o ho;simp only[List.getElem?_toArray,ho];split at h
  ·rename_i hw;rw[if_pos (Qn2 hR ops o true hw)];obtain⟨u,w', G', d,σ', hr,r1,r2,r3,r4⟩:=Q82 hT hR o h;refine Qtx (fun c hc=>?_) ?_
   ·rw[hc] at h; simp[Q8z] at h
   ·obtain⟨env', q1,q2⟩:=Qrz r2 (.refl G' w') r2.inv r3 r4;rcases hr with hr | ⟨hr,rfl⟩
    ·rw[hr]; exact hn _ _ _ _ r1 q1 (Qek _ _ _) q2
    ·rw[hr]; exact hn _ _ _ _ r1 q1 (Qek _ _ _) q2
  ·rename_i hw;rw[if_neg (by rw[Qn2 hR ops o false hw]; simp)];refine⟨fun f _=>Qyp _ _,?_⟩;obtain⟨env', q1,q2⟩:=Qrz hR (.refl G w) hR.inv .undef h;exact hn _ _ _ _ (.refl G w) q1 (Qek _ _ _) q2
  ·exact h.elim
def rOp:Op→Bool
 | .load _ _ | .nilCheck _ | .fieldAddr _ _ _ | .indexAddr _ _ _=>true
 | .call c=>match c.callee with | .builtin .len=>true | _=>false
 | _=>false
theorem Qaa4{o:Op}(hr:rOp o=true){hm:Home}{σ : St}{K:D→St→Prop}(h:Q8z tb hm o σ K):∃ d,K d σ ∧ ∀ (τ : St) (K' : D→St→Prop),(∀ x ∈ o.operands.toList,ev σ.env x=ev τ.env x) → τ.s.live = σ.s.live→K' d τ → Q8z tb hm o τ K' := by
 cases o with
 | load t x =>
  have h:(match ev σ.env x with | some d=>Q8y tb t d σ K | none=>False):=h;split at h
  ·rename_i d hd;unfold Q8y at h;split at h
   ·rename_i ti tk v a1 a2 a3 a4 c off hti;obtain⟨h1,h2,h3⟩:=h;obtain⟨y,h4,h5⟩:=Qv5 ti (c.drop off) σ.s (fun d _=>K d σ) h3;refine⟨_,h4,fun τ K' he hl hk=>?_⟩;show(match ev τ.env x with | some d=>Q8y tb t d τ K' | none=>False);rw[← he x (by simp[Op.operands]),hd];simp only[Q8y,hti];exact⟨by rw[hl]; exact h1,h2,h5 σ.s (fun d _=>K' d τ) hk⟩
   ·exact h.elim
  ·exact h.elim
 | nilCheck x =>
  have h:(match ev σ.env x with | some (.x tk v (.el e sz es i c off)) => σ.s.live[tk]? = some v∧K (.x tk v (.el e sz es i c off)) σ | _=>False):=h;split at h
  ·rename_i tk v e sz es i c off hd;refine⟨_,h.2,fun τ K' he hl hk=>?_⟩;show(match ev τ.env x with | some (.x tk v (.el e sz es i c off)) => τ.s.live[tk]? = some v∧K' (.x tk v (.el e sz es i c off)) τ | _=>False);rw[← he x (by simp[Op.operands]),hd];exact⟨by rw[hl]; exact h.1,hk⟩
  ·exact h.elim
 | fieldAddr t x f =>
  have h:(match ev σ.env x with | some d=>Qyw tb t d f σ K | none=>False):=h;split at h
  ·rename_i d hd;unfold Qyw at h;split at h
   ·rename_i ti tk v e sz es i c off hti;split at h
    ·rename_i fields hfs;split at h
     ·rename_i fd hfd;split at h
      ·rename_i tf htf;split at h
       ·exact h.elim
       ·rename_i hz;refine⟨_,h.2,fun τ K' he hl hk=>?_⟩;show(match ev τ.env x with | some d=>Qyw tb t d f τ K' | none=>False);rw[← he x (by simp[Op.operands]),hd];simp only[Qyw,hti,hfs,hfd,htf];rw[if_neg hz];exact⟨by rw[hl]; exact h.1,hk⟩
      ·exact h.elim
     ·exact h.elim
    ·exact h.elim
   ·exact h.elim
  ·exact h.elim
 | indexAddr t x i =>
  have h:(match ev σ.env x,ev σ.env i with | some a,some b=>Qyv tb t a b σ K | _,_=>False):=h;split at h
  ·rename_i da db hda hdb;unfold Qyv at h;split at h
   ·rename_i ti k n tk v e sz es hti;split at h
    ·rename_i e' he';split at h
     ·rename_i te hte;split at h
      ·rename_i hz;obtain⟨h1,c,h2,h3,h4,h5,h6⟩:=h;refine⟨_,h6,fun τ K' he hl hk=>?_⟩;show(match ev τ.env x,ev τ.env i with | some a,some b=>Qyv tb t a b τ K' | _,_=>False);rw[← he x (by simp[Op.operands]),← he i (by simp[Op.operands]),hda,hdb];simp only[Qyv,hti,he', hte];rw[if_pos hz];exact⟨by rw[hl]; exact h1,c,h2,h3,h4,h5,hk⟩
      ·exact h.elim
     ·exact h.elim
    ·exact h.elim
   ·exact h.elim
  ·exact h.elim
 | call c =>
  have hr:(match c.callee with | .builtin .len=>true | _=>false)=true:=hr;split at hr
  ·rename_i hc;have h:(match c.callee,evs (ev σ.env) c.args.toList,c.argTypes.toList with
    | .builtin .len,some [x],[t]=>xLen tb t x σ K
    | .builtin .append,some [x,y],[t,t']=>if t=t' then xApp tb t x y σ K else False
    | _,_,_=>False):=h
   rw[hc] at h;split at h
   ·rename_i x2 ty hcal hx hty;unfold xLen at h;split at h
    ·rename_i ti tk v a1 a2 es hti;split at h
     ·rename_i e' he';obtain⟨h1,n,h2,h3⟩:=h;refine⟨_,h3,fun τ K' he hl hk=>?_⟩;have e1:=Qlu (e:=ev σ.env) (e' := ev τ.env) c.args.toList fun x hx=>he x (by simp[Op.operands,Call.operands,hc]; simpa using hx)
      show(match c.callee,evs (ev τ.env) c.args.toList,c.argTypes.toList with
       | .builtin .len,some [x],[t]=>xLen tb t x τ K'
       | .builtin .append,some [x,y],[t,t']=>if t=t' then xApp tb t x y τ K' else False
       | _,_,_=>False)
      rw[hc,← e1,hx,hty];simp only[xLen,hti,he'];exact⟨by rw[hl]; exact h1,n,h2,hk⟩
     ·exact h.elim
    ·exact h.elim
   ·rename_i hcal _ _; cases hcal
   ·exact h.elim
  ·cases hr
 | _=>cases hr
def Qaen:List Nat→Nat→Option Home
 | k::c::x::y::r,i=>if k=i then some (match c with | 0 =>.no | 1 =>.s x | 2 =>.a x y | _ =>.h x y) else Qaen r i
 | _,_=>none
def xOps(mk:List Nat)(P:Program)(tb:Tbl)(N:Nat)(ops:List Oper):List Nat→St→(St→Prop)→Prop
 | [],σ,K=>K σ
 | i::r,σ,K=>match Qaen mk i with
  | some hm=>xOne tb N ops i hm σ fun σ' => xOps mk P tb N ops r σ' K
  | none=>bOne true P tb N ops i σ fun σ' => xOps mk P tb N ops r σ' K
theorem Qwa(hT:TblOk P tb){rd:Option Nat}{mk:List Nat}{N:Nat}{ops:List Oper}{Q:Exit→Act→World→Prop}{K:St→Prop}{B:Nat×Nat}{G0:Gh}{w0:World}{ds:List Deferred}(hQ:∀ a w G σ,Ex B G0 w0 G w→Rel N G σ a w→a.defers=ds→K σ → Q .normal a w) :
  ∀ (l:List Nat) (σ : St) (a:Act) (w:World) (G:Gh),Ex B G0 w0 G w→Rel N G σ a w→a.defers=ds→xOps mk P tb N ops l σ K→wpOpsIn (FW rd) 0 P ops.toArray Q l a w
 | [],σ,a,w,G,hE,hR,hd,h=>hQ a w G σ hE hR hd h
 | i::r,σ,a,w,G,hE,hR,hd,h=>by
  rw[wpOpsIn_cons];unfold xOps at h;split at h
  ·exact Qr2 hT hR h fun a' w' G' σ' s1 r1 d1 h1=>Qwa hT hQ r σ' a' w' G' (hE.trans (s1.ex B)) r1 (d1.trans hd) h1
  ·exact Qh3 hT hR h fun a' w' G' σ' s1 r1 d1 h1=>Qwa hT hQ r σ' a' w' G' (hE.trans (s1.ex B)) r1 (d1.trans hd) h1
end
def frz1(t v:Nat):D→D
 | .x t' v' X=>match X with
  | .sl e size es=>if t' = t∧v' = v then .p (.sl false es) else .x t' v' (.sl e size es)
  | X =>.x t' v' X
 | d=>d
def frzD(t v:Nat):D→D
 | .agg ds=>aggD (ds.map (frz1 t v))
 | d=>frz1 t v d
def frzE(t v:Nat):Env→Env
 | []=>[]
 | (s,d)::r=>(s,frzD t v d)::frzE t v r
def frzH(t v:Nat):List (List D)→List (List D)
 | []=>[]
 | cs::r=>cs.map (frz1 t v)::frzH t v r
theorem Q6q(t v:Nat):∀ (env:Env) (s:Nat) (d:D),(frzE t v env).lookup s=some d→∃ d0,env.lookup s=some d0∧d=frzD t v d0
 | [],s,d,h=>by simp[frzE] at h
 | (s0,d0)::r,s,d,h=>by
  unfold frzE at h;rw[List.lookup_cons] at h ⊢;by_cases hs:s=s0
  ·subst hs;simp only[beq_self_eq_true,Option.some.injEq] at h ⊢;exact⟨d0,rfl,h.symm⟩
  ·have hb:(s==s0)=false:=by simpa using hs
   rw[hb] at h ⊢;exact Q6q t v r s d h
theorem Q22(t v:Nat):∀ (h:List (List D)),frzH t v h=h.map fun cs=>cs.map (frz1 t v)
 | []=>rfl
 | cs::r=>by rw[frzH,Q22 t v r]; rfl
theorem Qahp{N:Nat}{G:Gh}{σ : St}{a:Act}{w:World}(hR:Rel N G σ a w){hm:Home}{d:D}(hg:hm.get σ = some d)(hnt:∀ ds,d ≠ .tup ds:=by exact fun _ h=>nomatch h):∃ u,DRel G w d u:=by
 cases hm with
 | no=>cases hg
 | s t=>exact⟨_,(hR.env t d hg).2⟩
 | a t j =>
  dsimp only[Home.get] at hg;split at hg
  ·rename_i ds hds;have k2:=(hR.env t _ hds).2;generalize a.tmps.getD t undef=u at k2;cases k2 with
   | agg _ us l1 l2 l3 =>
    have hlt:j<us.size:=by rw[← l1]; exact(List.getElem?_eq_some_iff.1 hg).1
    exact⟨_,l3 j d us[j] hg (Array.getElem?_eq_getElem hlt)⟩
  ·cases hg
 | h nm off =>
  dsimp only[Home.get] at hg;split at hg
  ·rename_i cs hcs;have hlt:nm<G.name.length:=by rw[hR.inv.names]; exact(List.getElem?_eq_some_iff.1 hcs).1
   obtain⟨us,ty,h1,h2,h3⟩:=(hR.inv.var nm _ cs (List.getElem?_eq_getElem hlt) hcs).at hg hnt;have hlt2:off<us.size:=by rw[h2]; exact(List.getElem?_eq_some_iff.1 hg).1
   exact⟨_,(h3 off d us[off] hg (Array.getElem?_eq_getElem hlt2)).2⟩
  ·cases hg
theorem Qaa5{N:Nat}{G:Gh}{σ : St}{a:Act}{w:World}(hR:Rel N G σ a w){hm:Home}{t v:Nat}{X:XD}(hg:hm.get σ = some (.x t v X))(hl : σ.s.live[t]? = some v):∃ T1,G.tok[t]? = some T1∧T1.pro=none∧T1.len=v:=by
 obtain⟨u,hu⟩:=Qahp hR hg;obtain⟨T1,h1,h2,h3,-⟩:=Qqh hR.inv hu hl;exact⟨T1,h1,h2,h3⟩
theorem Qahq{B:Nat×Nat}{N:Nat}{env:Env}{s:S}(hm:Home)(t v:Nat){X:XD}(h:s.live[t]? = some v)(hg:hm.get ⟨env,s⟩=some (.x t v X)){G:Gh}{a:Act}{w:World}(hR:Rel N G ⟨env,s⟩ a w) :
  ∃ G', Ex B G w G' w∧Rel N G' ⟨frzE t v env,⟨frzH t v s.heap,s.live.set t (v+1)⟩⟩ a w∧G'.tok[t]? = some ⟨v+1,none,0,none⟩:=by
 obtain⟨T1,t1,hp,t2⟩:=Qaa5 hR hg h;have hI:=hR.inv;have hlt:t<G.tok.length:=(List.getElem?_eq_some_iff.1 t1).1;have hTm:T1 ∈ G.tok:=List.mem_of_getElem? t1;obtain⟨C,hC⟩:∃ C:Nat→Nat→Prop,∀ b o,C b o↔G.com b o∨(T1.blk=some b∧T1.cells=0):=⟨_,fun _ _=>Iff.rfl⟩;have hst:Stp G w ⟨C,G.name,G.tok.set t ⟨v+1,none,0,none⟩⟩ w:=by
  refine⟨⟨rfl,rfl,rfl,Nat.le_refl _,fun b o u h hu=>⟨(hC b o).2 (.inl h),hu⟩,fun _ _ _ _=>rfl,fun b o h=>?_,fun b h=>?_,fun b o h=>(hC b o).2 (.inl h),.refl w⟩,fun nm b h=>h,fun t' T' h9=>?_⟩
  ·rcases (hC b o).1 h with h | ⟨h,-⟩
   ·exact .inl h
   ·exact .inr (.inr (.inr ⟨T1,hTm,.inl h⟩))
  ·rcases h with h | ⟨T', hT', hb⟩
   ·exact .inr (.inl h)
   ·rcases List.mem_or_eq_of_mem_set hT' with h | h
    ·exact .inr (.inr ⟨T', h,hb⟩)
    ·subst h; exact nomatch (Tok.has_row.1 hb)
  ·by_cases htt:t' = t
   ·subst htt;rw[t1] at h9;obtain rfl:=Option.some.inj h9;exact⟨⟨v+1,none,0,none⟩,List.getElem?_set_self hlt,⟨by simp only; omega,by simp[hp]⟩,fun e=>by simp only at e; omega⟩
   ·exact⟨T', by rw[List.getElem?_set_ne (fun e=>htt e.symm)]; exact h9,.refl T', fun _=>⟨rfl,fun _ _=>rfl⟩⟩
 have f1:∀ {d:D} {u:Value},DRel G w d u→DRel ⟨C,G.name,G.tok.set t ⟨v+1,none,0,none⟩⟩ w (frz1 t v d) u:=fun {d} {u} hd=>by
  have hk:=hd.mono hst;unfold frz1;split
  ·rename_i t' v' X';split
   ·rename_i e size es;split
    ·rename_i htv;obtain⟨rfl,rfl⟩:=htv;obtain⟨T2,x1,x0,x2,hX⟩:=Qqh hI hd h;rw[t1] at x1;obtain rfl:=Option.some.inj x1;cases hX with
     | sl _ _ _ ad cap hna hrow =>
      obtain⟨w1,w2,w3,w4⟩:=hrow;rcases w4 with ⟨w4,w5⟩ | ⟨b,us,rfl,w5,w6,w7,w8,w9⟩
      ·have h0:es=[]:=List.eq_nil_of_length_eq_zero (by omega);subst h0;exact .p _ _ (.sl false [] ad cap 0 0 0 (fun _=>undef) w2 w3 (fun h=>by cases h) (fun e he=>by simp at he) hna (fun i k e c he=>by simp at he) (fun i k e c he=>by simp at he) (fun h=>by cases h))
      ·refine .p _ _ (Qrx b us e (0,0) w7 es size cap (fun o _=>(hC b o).2 (.inr ⟨w5,w6⟩)) false w2 w3 (fun h=>by cases h) w1 fun i k x c hx hc=>?_);obtain⟨u,p1,p2,p3⟩:=w9 i k x c hx hc;exact⟨u,p1,p2,p3.mono (Nat.le_refl _) fun b o u h1 h2=>⟨(hC b o).2 (.inl h1),h2⟩⟩
    ·exact hk
   ·exact hk
  ·exact hk
 have mem' : ∀ T' ∈ G.tok.set t ⟨v+1,none,0,none⟩,(∃ i,i≠t∧G.tok[i]? = some T')∨T' = ⟨v+1,none,0,none⟩:=fun T' hT' => by
  obtain⟨i,hi⟩:=List.getElem?_of_mem hT';by_cases hit:t=i
  ·subst hit;rw[List.getElem?_set_self hlt] at hi;exact .inr (Option.some.inj hi).symm
  ·rw[List.getElem?_set_ne hit] at hi;exact .inl ⟨i,fun e=>hit e.symm,hi⟩
 have get' : ∀ (i:Nat) T' b,(G.tok.set t ⟨v+1,none,0,none⟩)[i]? = some T' → T'.has b→i≠t∧G.tok[i]? = some T' := fun i T' b hi hb=>by
  by_cases hit:t=i
  ·subst hit;rw[List.getElem?_set_self hlt] at hi;obtain rfl:=Option.some.inj hi;exact nomatch (Tok.has_row.1 hb)
  ·rw[List.getElem?_set_ne hit] at hi;exact⟨fun e=>hit e.symm,hi⟩
 refine⟨⟨C,G.name,G.tok.set t ⟨v+1,none,0,none⟩⟩,hst.ex B,⟨⟨fun b o hc=>?_,?_,hI.nodup,fun i b cs hb hcs=>?_,?_,fun t' T' b ht hb=>?_,fun T' hT' => ?_,hI.glob.mono hst.ext.com⟩,fun s d hd=>?_,hR.size⟩,List.getElem?_set_self hlt⟩
 ·rcases (hC b o).1 hc with hc | ⟨hc,h0⟩
  ·obtain⟨g1,g2,g3⟩:=hI.com b o hc;refine⟨g1,g2,fun T' hT' => ?_⟩;rcases mem' T' hT' with ⟨i,-,hi⟩ | rfl
   ·exact g3 T' (List.mem_of_getElem? hi)
   ·exact Tok.may_row.2 fun h=>by cases h
  ·obtain⟨g1,g2,g3⟩:=hI.tok t T1 b t1 (.inl hc);refine⟨g1,g2,fun T' hT' => ?_⟩;rcases mem' T' hT' with ⟨i,hit,hi⟩ | rfl
   ·exact⟨fun hb=>absurd (g3 i T' hi (.inl hb)) hit,fun hb=>absurd (g3 i T' hi (.inr hb)) hit⟩
   ·exact Tok.may_row.2 fun h=>by cases h
 ·show G.name.length=(frzH t v s.heap).length;rw[Q22,List.length_map]; exact hI.names
 ·have hcs:(frzH t v s.heap)[i]? = some cs:=hcs;rw[Q22,List.getElem?_map] at hcs;obtain⟨cs0,h0,rfl⟩:=Option.map_eq_some_iff.1 hcs;cases hI.var i b cs0 hb h0 with
  | map fl ms es clock h1 h2 h3=>exact .map fl ms es clock (by rw[h1]; rfl) h2 (h3.mono (Nat.le_refl _) fun b o _ h1 h2=>⟨(hC b o).2 (.inl h1),h2⟩)
  | cells us ty h1 h2 h3 =>
  refine .cells us ty h1 (by simpa using h2) fun j c u hc hu=>?_
  rw[List.getElem?_map] at hc;obtain⟨c0,hc0,rfl⟩:=Option.map_eq_some_iff.1 hc;exact⟨(h3 j c0 u hc0 hu).1,f1 (h3 j c0 u hc0 hu).2⟩
 ·show(G.tok.set t _).map (·.len)=s.live.set t (v+1);rw[List.map_set,hI.live]
 ·obtain⟨hne,ht⟩:=get' t' T' b ht hb;obtain⟨g1,g2,g3⟩:=hI.tok t' T' b ht hb;exact⟨g1,g2,fun t'' T'' ht'' hb'' => g3 t'' T'' (get' t'' T'' b ht'' hb'').2 hb''⟩
 ·rcases mem' T' hT' with ⟨i,hit,hi⟩ | rfl
  ·have hm:=List.mem_of_getElem? hi;exact⟨(hI.pro T' hm).1,fun b o hr=>(hC b o).2 (.inl ((hI.pro T' hm).2 b o hr))⟩
  ·exact⟨fun q hq=>(nomatch hq),fun b o ⟨q,hq,_⟩=>(nomatch hq)⟩
 ·obtain⟨d0,h1,rfl⟩:=Q6q t v env s d hd;obtain⟨k1,k2⟩:=hR.env s d0 h1;refine⟨k1,?_⟩;unfold frzD;split
  ·rename_i ds;generalize a.tmps.getD s undef=u at k2;cases k2 with
   | agg _ us l1 l2 l3 =>
    refine CellsRel.agg ⟨by rw[List.length_map]; exact l1.symm,fun j c u hc hu=>?_⟩;rw[List.getElem?_map] at hc;obtain⟨c0,hc0,rfl⟩:=Option.map_eq_some_iff.1 hc;exact⟨l2 j c0 u hc0 hu,f1 (l3 j c0 u hc0 hu)⟩
  ·exact f1 k2
def ver1(t v v' : Nat):D→D
 | .x t' w X=>if t' = t∧w=v then .x t' v' X else .x t' w X
 | d=>d
def verD(t v v' : Nat):D→D
 | .agg ds =>.agg (ds.map (ver1 t v v'))
 | d=>ver1 t v v' d
def noT1(t:Nat):D→Bool
 | .p _ | .ptr _ _ | .sp _ _ _ _ _ | .mh _ | .undef=>true
 | .own t' _ _ _=>t' != t
 | .yld _ t' _=>t' != t
 | .x t' _ _=>t' != t
 | .fn _ _ _ | .agg _ | .tup _ | .sf _ | .ef _=>false
def okT1(t v:Nat):D→Bool
 | .x t' w _=>t' != t||w==v
 | .fn _ x y=>x.all (noT1 t)&&y.all (noT1 t)
 | .tup [.p _]=>true
 | d=>noT1 t d
def okT(t v:Nat):D→Bool
 | .agg ds=>ds.all (okT1 t v)
 | .tup ds=>ds.all (noT1 t)
 | .fn _ x y=>x.all (noT1 t)&&y.all (noT1 t)
 | .sf _ | .ef _=>false
 | d=>okT1 t v d
def verE(t v v' : Nat):Env→Env
 | []=>[]
 | (s,d)::r=>(s,verD t v v' d)::verE t v v' r
def verH(t v v' : Nat):List (List D)→List (List D)
 | []=>[]
 | cs::r=>cs.map (ver1 t v v')::verH t v v' r
theorem Q6r(t v v' : Nat):∀ (env:Env) (s:Nat) (d:D),(verE t v v' env).lookup s=some d→∃ d0,(s,d0) ∈ env∧env.lookup s=some d0∧d=verD t v v' d0
 | [],s,d,h=>by simp[verE] at h
 | (s0,d0)::r,s,d,h=>by
  unfold verE at h;rw[List.lookup_cons] at h ⊢;by_cases hs:s=s0
  ·subst hs;simp only[beq_self_eq_true,Option.some.injEq] at h ⊢;exact⟨d0,by simp,rfl,h.symm⟩
  ·have hb:(s==s0)=false:=by simpa using hs
   rw[hb] at h ⊢;obtain⟨d1,h1,h2,h3⟩:=Q6r t v v' r s d h;exact⟨d1,by simp[h1],h2,h3⟩
theorem Q23(t v v' : Nat):∀ (h:List (List D)),verH t v v' h=h.map fun cs=>cs.map (ver1 t v v')
 | []=>rfl
 | cs::r=>by rw[verH,Q23 t v v' r]; rfl
theorem Qaa6{B:Nat×Nat}{N:Nat}{env:Env}{s:S}(t v v' : Nat)(h:s.live[t]? = some v)(hE:env.all (fun p=>okT t v p.2)=true)(hH:s.heap.all (fun cs=>cs.all (okT1 t v))=true)
  (hB:B.2≤t) {G:Gh} {a:Act} {w:World} (hR:Rel N G ⟨env,s⟩ a w) {T1:Tok} (t1:G.tok[t]? = some T1) (hp:T1.pro=none):∃ G', Ex B G w G' w∧Rel N G' ⟨verE t v v' env,⟨verH t v v' s.heap,s.live.set t v'⟩⟩ a w:=by
 have hI:=hR.inv;have hlt:t<G.tok.length:=(List.getElem?_eq_some_iff.1 t1).1;have hTm:T1 ∈ G.tok:=List.mem_of_getElem? t1;have hne:∀ t', t' ≠ t→(G.tok.set t ⟨v', T1.blk,T1.cells,none⟩)[t']? = G.tok[t']? := fun t' h=>List.getElem?_set_ne (fun e=>h e.symm)
 have hT' : (G.tok.set t ⟨v', T1.blk,T1.cells,none⟩)[t]? = some ⟨v', T1.blk,T1.cells,none⟩:=List.getElem?_set_self hlt;have has' : ∀ b,(Tok.mk v' T1.blk T1.cells none).has b↔T1.has b:=fun b=>by rw[Tok.has_row,Tok.has_blk hp]
 have n1:∀ {d:D} {u:Value},noT1 t d=true→DRel G w d u→DRel ⟨G.com,G.name,G.tok.set t ⟨v', T1.blk,T1.cells,none⟩⟩ w d u:=fun {d} {u} ho hd=>by
  cases hd with
  | p x u h=>exact .p x u h
  | ptr nm off b h=>exact .ptr nm off b h
  | own t' e size es u T h1 h2 h3 h0 h4 h5 =>
   have hx:t' ≠ t:=by simpa [noT1] using ho
   refine .own t' e size es u T h1 h2 (by rw[hne t' hx]; exact h3) h0 h4 fun he=>?_
   obtain⟨a,cap,rfl,h6⟩:=h5 he;refine⟨a,cap,rfl,h6.imp id (Or.imp_left ?_)⟩;rintro ⟨b,us,T2,ha,g1,g⟩;exact⟨b,us,T2,ha,by rw[hne t' hx]; exact g1,g⟩
  | yld t' T p h1 h2 =>
   have hx:t' ≠ t:=by simpa [noT1] using ho
   exact .yld t' T p (by rw[hne t' hx]; exact h1) h2
  | sp P u b nm off i e n v h1 h2 h3 h4 h5 h6=>exact .sp P u b nm off i e n _ h1 h2 h3 h4 h5 h6
  | x t' v X u T h1 h0 h2 h3 h4 =>
   have hx:t' ≠ t:=by simpa [noT1] using ho
   exact .x t' v X u T (by rw[hne t' hx]; exact h1) h0 h2 h3 h4
  | mh nm b h=>exact .mh nm b h
  | undef=>exact .undef
  | _=>cases ho
 have f1:∀ {d:D} {u:Value},okT1 t v d=true→DRel G w d u→DRel ⟨G.com,G.name,G.tok.set t ⟨v', T1.blk,T1.cells,none⟩⟩ w (ver1 t v v' d) u:=fun {d} {u} ho hd=>by
  cases d with
  | x t' w' X =>
   show DRel _ w (if t' = t∧w' = v then .x t' v' X else .x t' w' X) u;split
   ·rename_i htv;obtain⟨rfl,rfl⟩:=htv;obtain⟨T2,x1,x0,x2,hX⟩:=Qqh hI hd h;rw[t1] at x1;obtain rfl:=Option.some.inj x1;refine .x _ _ _ _ ⟨v', T1.blk,T1.cells,none⟩ hT' rfl (Nat.le_refl _) hX.one fun _=>?_
    cases hX with
    | sl e size es a cap h1 h2=>exact .sl e size es a cap h1 h2
    | el e size es i c off b cap h1 h2=>exact .el e size es i c off b cap h1 h2
   ·rename_i htv;refine n1 ?_ hd;simp only[okT1,Bool.or_eq_true,bne_iff_ne,ne_eq,beq_iff_eq] at ho;simp only[noT1,bne_iff_ne,ne_eq];intro e;rcases ho with ho | ho
    ·exact ho e
    ·exact htv ⟨e,ho⟩
  | p x=>exact n1 (d :=.p x) ho hd
  | ptr a b=>exact n1 (d :=.ptr a b) ho hd
  | own a b c e=>exact n1 (d :=.own a b c e) ho hd
  | fn f a b =>
   simp only[okT1,Bool.and_eq_true,List.all_eq_true] at ho;cases hd with
   | fn _ _ _ us vs l1 l2 l3 l4=>exact .fn f a b us vs l1 l2 (fun j c u hc hu=>n1 (ho.1 c (List.mem_of_getElem? hc)) (l3 j c u hc hu)) (fun j c u hc hu=>n1 (ho.2 c (List.mem_of_getElem? hc)) (l4 j c u hc hu))
  | yld P a b=>exact n1 (d :=.yld P a b) ho hd
  | sp P a b c e=>exact n1 (d :=.sp P a b c e) ho hd
  | agg a=>exact n1 (d :=.agg a) ho hd
  | tup a =>
   match a,ho,hd with
   | [.p x],_,hd =>
    cases hd with
    | tup _ us l1 l3 =>
     refine .tup _ us l1 fun j c u hc hu=>n1 ?_ (l3 j c u hc hu)
     rw[List.mem_singleton.1 (List.mem_of_getElem? hc)]; rfl
  | mh nm=>exact n1 (d :=.mh nm) ho hd
  | sf a=>exact n1 (d :=.sf a) ho hd
  | ef a=>exact n1 (d :=.ef a) ho hd
  | undef=>exact n1 (d :=.undef) ho hd
 have get' : ∀ (i:Nat) T', (G.tok.set t ⟨v', T1.blk,T1.cells,none⟩)[i]? = some T' → (i≠t∧G.tok[i]? = some T')∨(i=t∧T' = ⟨v', T1.blk,T1.cells,none⟩):=fun i T' hi=>by
  by_cases hit:i=t
  ·subst hit;rw[hT'] at hi;exact .inr ⟨rfl,(Option.some.inj hi).symm⟩
  ·rw[hne i hit] at hi;exact .inl ⟨hit,hi⟩
 have hasG:∀ (i:Nat) T' b,(G.tok.set t ⟨v', T1.blk,T1.cells,none⟩)[i]? = some T' → T'.has b→∃ T2,G.tok[i]? = some T2∧T2.has b:=fun i T' b hi hb=>by
  rcases get' i T' hi with ⟨-,h⟩ | ⟨rfl,rfl⟩
  ·exact⟨T', h,hb⟩
  ·exact⟨T1,t1,(has' b).1 hb⟩
 have hex:Ex B G w ⟨G.com,G.name,G.tok.set t ⟨v', T1.blk,T1.cells,none⟩⟩ w:=by
  refine⟨⟨rfl,rfl,rfl,Nat.le_refl _,fun b o u h hu=>⟨h,hu⟩,fun _ _ _ _=>rfl,fun b o h =>.inl h,fun b h=>?_,fun b o h=>h,.refl w⟩,fun nm b _ h=>h,fun t' T' hl h=>?_⟩
  ·rcases h with h | ⟨T', hT', hb⟩
   ·exact .inr (.inl h)
   ·obtain⟨i,hi⟩:=List.getElem?_of_mem hT';obtain⟨T2,h1,h2⟩:=hasG i T' b hi hb;exact .inr (.inr ⟨T2,List.mem_of_getElem? h1,h2⟩)
  ·exact⟨T', by rw[hne t' (by omega)]; exact h,.refl T', fun _=>⟨rfl,fun _ _=>rfl⟩⟩
 refine⟨⟨G.com,G.name,G.tok.set t ⟨v', T1.blk,T1.cells,none⟩⟩,hex,⟨⟨fun b o hc=>?_,?_,hI.nodup,fun i b cs hb hcs=>?_,?_,fun t' T' b ht hb=>?_,fun T' hT' => ?_,hI.glob⟩,fun s' d hd=>?_,hR.size⟩⟩
 ·obtain⟨g1,g2,g3⟩:=hI.com b o hc;refine⟨g1,g2,fun T' hT' => ?_⟩;obtain⟨i,hi⟩:=List.getElem?_of_mem hT';rcases get' i T' hi with ⟨-,h⟩ | ⟨rfl,rfl⟩
  ·exact g3 T' (List.mem_of_getElem? h)
  ·exact Tok.may_row.2 fun h=>(g3 T1 hTm).1 h
 ·show G.name.length=(verH t v v' s.heap).length;rw[Q23,List.length_map]; exact hI.names
 ·have hcs:(verH t v v' s.heap)[i]? = some cs:=hcs;rw[Q23,List.getElem?_map] at hcs;obtain⟨cs0,h0,rfl⟩:=Option.map_eq_some_iff.1 hcs;cases hI.var i b cs0 hb h0 with
  | map fl ms es clock h1 h2 h3=>exact .map fl ms es clock (by rw[h1]; rfl) h2 (h3.mono (Nat.le_refl _) fun _ _ _ h1 h2=>⟨h1,h2⟩)
  | cells us ty h1 h2 h3 =>
  refine .cells us ty h1 (by simpa using h2) fun j c u hc hu=>?_
  rw[List.getElem?_map] at hc;obtain⟨c0,hc0,rfl⟩:=Option.map_eq_some_iff.1 hc;rw[List.all_eq_true] at hH;have hH2:=hH cs0 (List.mem_of_getElem? h0);rw[List.all_eq_true] at hH2;exact⟨(h3 j c0 u hc0 hu).1,f1 (hH2 c0 (List.mem_of_getElem? hc0)) (h3 j c0 u hc0 hu).2⟩
 ·show(G.tok.set t _).map (·.len)=s.live.set t v';rw[List.map_set,hI.live]
 ·obtain⟨T2,g,hb2⟩:=hasG t' T' b ht hb;obtain⟨g1,g2,g3⟩:=hI.tok t' T2 b g hb2;refine⟨g1,g2,fun t'' T'' ht'' hb'' => ?_⟩;obtain⟨T3,g', hb3⟩:=hasG t'' T'' b ht'' hb'';exact g3 t'' T3 g' hb3
 ·obtain⟨i,hi⟩:=List.getElem?_of_mem hT';rcases get' i T' hi with ⟨-,h⟩ | ⟨rfl,rfl⟩
  ·exact hI.pro T' (List.mem_of_getElem? h)
  ·exact⟨fun q hq=>(nomatch hq),fun b o ⟨q,hq,_⟩=>(nomatch hq)⟩
 ·obtain⟨d0,hm0,h1,rfl⟩:=Q6r t v v' env s' d hd;obtain⟨k1,k2⟩:=hR.env s' d0 h1;refine⟨k1,?_⟩;rw[List.all_eq_true] at hE;have ho:=hE (s', d0) hm0;simp only at ho;generalize a.tmps.getD s' undef=u at k2;cases k2 with
  | agg ds us l1 l2 l3 =>
   simp only[okT,List.all_eq_true] at ho;refine .agg _ us (by rw[List.length_map]; exact l1) (fun j c u hc hu=>?_) (fun j c u hc hu=>?_)
   all_goals
    rw[List.getElem?_map] at hc;obtain⟨c0,hc0,rfl⟩:=Option.map_eq_some_iff.1 hc
    first
     | exact l2 j c0 u hc0 hu
     | exact f1 (ho c0 (List.mem_of_getElem? hc0)) (l3 j c0 u hc0 hu)
  | tup ds us l1 l3 =>
   simp only[okT,List.all_eq_true] at ho;exact .tup _ us l1 (fun j c u hc hu=>n1 (ho c (List.mem_of_getElem? hc)) (l3 j c u hc hu))
  | fn f x y us vs l1 l2 l3 l4 =>
   simp only[okT,Bool.and_eq_true,List.all_eq_true] at ho;exact .fn f x y us vs l1 l2 (fun j c u hc hu=>n1 (ho.1 c (List.mem_of_getElem? hc)) (l3 j c u hc hu)) (fun j c u hc hu=>n1 (ho.2 c (List.mem_of_getElem? hc)) (l4 j c u hc hu))
  | sf ds b us=>cases ho
  | ef d b off u=>cases ho
  | p x u h=>exact f1 (d :=.p x) ho (.p x u h)
  | ptr nm off b h=>exact f1 (d :=.ptr nm off) ho (.ptr nm off b h)
  | own t' e size es u T h1 h2 h3 h0 h4 h5=>exact f1 (d :=.own t' e size es) ho (.own t' e size es u T h1 h2 h3 h0 h4 h5)
  | yld t' T p k3 k4=>exact f1 (d :=.yld p.P t' p.xs) ho (.yld t' T p k3 k4)
  | sp P u b nm off i e n v k3 k4 k5 k6 k7 k8=>exact f1 (d :=.sp P u b nm off) ho (.sp P u b nm off i e n _ k3 k4 k5 k6 k7 k8)
  | x t' v X u T k3 k4 k5 k6 k7=>exact f1 (d :=.x t' v X) ho (.x t' v X u T k3 k4 k5 k6 k7)
  | mh nm b h=>exact f1 (d :=.mh nm) ho (.mh nm b h)
  | undef=>exact f1 (d :=.undef) ho .undef
theorem Le.ver{B:Nat×Nat}{N:Nat}{env:Env}{s:S}(hm:Home)(t v v' : Nat){X:XD}(h:s.live[t]? = some v)(hg:hm.get ⟨env,s⟩=some (.x t v X))(hE:env.all (fun p=>okT t v p.2)=true)(hH:s.heap.all (fun cs=>cs.all (okT1 t v))=true)
  (hB:B.2≤t:=by exact Nat.le_of_ble_eq_true rfl):Le B N ⟨env,s⟩ ⟨verE t v v' env,⟨verH t v v' s.heap,s.live.set t v'⟩⟩:=⟨fun G a w hR=>by
 obtain⟨T1,t1,hp,-⟩:=Qaa5 hR hg h;exact Qaa6 t v v' h hE hH hB hR t1 hp⟩
theorem Le.frzv{B:Nat×Nat}{N:Nat}{env:Env}{s:S}(hm:Home)(t v:Nat){X:XD}(h:s.live[t]? = some v)(hg:hm.get ⟨env,s⟩=some (.x t v X))(hE:(frzE t v env).all (fun p=>okT t (v+1) p.2)=true)(hH:(frzH t v s.heap).all (fun cs=>cs.all (okT1 t (v+1)))=true)
  (hB:B.2≤t:=by exact Nat.le_of_ble_eq_true rfl):Le B N ⟨env,s⟩ ⟨verE t (v+1) 1 (frzE t v env),⟨verH t (v+1) 1 (frzH t v s.heap),(s.live.set t (v+1)).set t 1⟩⟩:=⟨fun G a w hR=>by
 obtain⟨G1,e1,r1,t1⟩:=Qahq (B:=B) hm t v h hg hR;have hl:(s.live.set t (v+1))[t]? = some (v+1):=List.getElem?_set_self (List.getElem?_eq_some_iff.1 h).1;obtain⟨G2,e2,r2⟩:=Qaa6 (B:=B) t (v+1) 1 hl hE hH hB r1 t1 rfl;exact⟨G2,e1.trans e2,r2⟩⟩
theorem Le.xnil{B:Nat×Nat}{N:Nat}{env:Env}{s:S}(hm:Home)(e size:Nat){es:List (List V)}(hg:hm.get ⟨env,s⟩=some (.p (.sl true es)))(h0:es=[]:=by exact rfl):Le B N ⟨env,s⟩ (hm.set (.x s.live.length 1 (.sl e size [])) ⟨env,⟨s.heap,s.live++[1]⟩⟩):=⟨fun G a w hR=>by
 subst h0;obtain⟨G1,s1,r1,t1,c1,n1⟩:=Qv9 hR;obtain⟨s2,i2⟩:=Qop r1.inv t1 rfl (Nat.zero_lt_one) (bk:=none) rfl rfl rfl (Nat.le_refl _) (fun k hk hne=>rfl) (fun g hg=>by cases hg) (.refl w);rw[show(⟨env,⟨s.heap,s.live++[0]⟩⟩:St).s.live.set s.live.length 1=s.live++[1] from Q21 _ _] at i2;refine⟨_,(s1.trans s2).ex B,Qaa2 hR (s1.trans s2) i2 n1 (fun b hb=>rfl) hg fun u hu=>?_⟩;cases hu with
 | p _ _ hx =>
  obtain⟨ad,cap,rfl,q1,q2,q3,q4⟩:=hx.isSlice;have hc:cap=0:=q3 rfl;subst hc;exact⟨.x _ 1 _ _ ⟨1,none,0,none⟩ (Qoq t1) rfl (Nat.le_refl _) rfl fun _ =>.sl e size [] ad 0 (fun _=>rfl) ⟨fun x hx=>(nomatch hx),Nat.le_refl _,Nat.zero_le _,.inl ⟨rfl,q4 rfl⟩⟩,rfl⟩⟩
end Go.Proofs.YtagokkpnfceidaaGreatDoor
end
