/- Part 1 of 12. -/
import Derived.Test.YtfgegilhjlnohaaGreatRows
import Derived.WalkKit
import Derived.Below
import Derived.Laws.AppendOwn
import Derived.RangeFuncSeq
import Derived.Lib.Strings
import Derived.Laws.IdiomStrings
import Derived.Laws.Small
import Derived.Laws.StructEq
import Derived.Laws.Pointers

noncomputable section
namespace Go.Proofs.YtfgegilhjlnohaaGreat
open Go.RowKit
set_option linter.unusedSimpArgs false
set_option linter.unusedVariables false
inductive V where
 | v (u:Value)
 | agg (cs:List V)
 | sl (full:Bool) (es:List (List V))
 | ep (cs:List V)
 | opt (b:Bool) (cs:List V)
instance:Inhabited V:=⟨.v (.bool false)⟩
def scal:Value->Bool
 | .bool _ | .int _ _ | .float _ _ | .string _ | .pointer none | .nilFunc | .nilIface | .map none | .chan none=>true
 | _=>false
inductive VRel (C:Nat->Nat->Prop) (w:World):V->Value->Prop where
 | v (u:Value):scal u=true->VRel C w (.v u) u
 | agg (cs:List V) (us:Array Value):cs.length=us.size->(∀ (j:Nat) c u,cs[j]? = some c->us[j]? = some u->u.oneCell' = true) ->
   (∀ (j:Nat) c u,cs[j]? = some c->us[j]? = some u->VRel C w c u)->VRel C w (.agg cs) (.agg us)
 | sl (full:Bool) (es:List (List V)) (a:Option Addr) (cap size b off:Nat) (us:Nat->Value) :
   es.length<=cap->cap<=maxLen->(full=true->cap=es.length)->(∀ e ∈ es,e.length=size)->(a=none->cap=0) ->
   (∀ (i k:Nat) e c,es[i]? = some e->e[k]? = some c->a=some ⟨b,off,none⟩/\C b (off+i*size+k)/\w.cell? ⟨b,off+i*size+k,none⟩=some (us (i*size+k))/\(us (i*size+k)).oneCell' = true) ->
   (∀ (i k:Nat) e c,es[i]? = some e->e[k]? = some c->VRel C w c (us (i*size+k)))->(full=true->∀ ad,a=some ad->ad.block<w.heap.size)->VRel C w (.sl full es) (.slice a es.length cap)
 | ep (cs:List V) (b off:Nat) (us:Nat->Value) :
   (∀ (k:Nat) c,cs[k]? = some c->C b (off+k)/\w.cell? ⟨b,off+k,none⟩=some (us k)/\(us k).oneCell' = true) ->
   (∀ (k:Nat) c,cs[k]? = some c->VRel C w c (us k))->VRel C w (.ep cs) (.pointer (some ⟨b,off,none⟩))
 | opt (b:Bool) (cs:List V) (u:Value):(b=false->u = .pointer none)->(b=true->VRel C w (.ep cs) u)->VRel C w (.opt b cs) u
def Qadh:List Nat:=[0]
def Qako:List (Nat×List (List UInt8)):=[]
def GlobOk(C:Nat->Nat->Prop)(w:World):Prop:=(∀ b ∈ Qadh,∃ m,C b 0/\w.cell? ⟨b,0,none⟩=some (.int .i64 m)) /\
 ∀ x ∈ Qako,∀ (k:Nat) s,x.2[k]? = some s->C x.1 k/\w.cell? ⟨x.1,k,none⟩=some (.string ⟨s.toArray⟩)
theorem GlobOk.mono{C C' : Nat->Nat->Prop}{w w' : World}(h:GlobOk C w)(hc:∀ b o u,C b o->w.cell? ⟨b,o,none⟩=some u->C' b o/\w'.cell? ⟨b,o,none⟩=some u):GlobOk C' w' := ⟨λb hb=>by
 obtain⟨m,h1,h2⟩:=h.1 b hb;exact⟨m,hc b 0 _ h1 h2⟩,λx hx k s hk=>by
 obtain⟨h1,h2⟩:=h.2 x hx k s hk;exact hc _ _ _ h1 h2⟩
theorem VRel.mono{C C' : Nat->Nat->Prop}{w w' : World}{x:V}{u:Value}(h:VRel C w x u)(hz:w.heap.size<=w'.heap.size)
  (hc:∀ b o u,C b o->w.cell? ⟨b,o,none⟩=some u->C' b o/\w'.cell? ⟨b,o,none⟩=some u):VRel C' w' x u:=by
 induction h with
 | v u h=>exact .v u h
 | agg cs us h1 h2 _ ih=>exact .agg cs us h1 h2 ih
 | sl full es a cap size b off us h1 h2 h3 h4 h5 h6 _ h8 ih =>
  refine .sl full es a cap size b off us h1 h2 h3 h4 h5 (λi k e c he hk=>?_) ih (λhf ad had=>Nat.lt_of_lt_of_le (h8 hf ad had) hz);obtain⟨g1,g2,g3,g4⟩:=h6 i k e c he hk;exact⟨g1,(hc _ _ _ g2 g3).1,(hc _ _ _ g2 g3).2,g4⟩
 | ep cs b off us h1 _ ih =>
  refine .ep cs b off us (λk c hk=>?_) ih;obtain⟨g2,g3,g4⟩:=h1 k c hk;exact⟨(hc _ _ _ g2 g3).1,(hc _ _ _ g2 g3).2,g4⟩
 | opt b cs u h1 _ ih=>exact .opt b cs u h1 ih
inductive XD where
 | sl (e size:Nat) (es:List (List V))
 | el (e size:Nat) (es:List (List V)) (i:Nat) (c:List V) (off:Nat)
inductive D where
 | p (x:V)
 | ptr (nm off:Nat)
 | own (t e size:Nat) (es:List (List V))
 | fn (f:Fn) (first cap:List D)
 | yld (P:Program) (t:Nat) (xs:List (List V))
 | sp (P:Program) (u:Nat) (b:Bool) (nm off:Nat)
 | agg (cs:List D)
 | tup (cs:List D)
 | sf (ds:List D)
 | ef (d:D)
 | x (t v:Nat) (X:XD)
 | mh (nm:Nat)
 | undef
instance:Inhabited D:=⟨.undef⟩
def ShKept(w w' : World):Prop:=∀ b sh,w.shape? b=some sh->w'.shape? b=some sh
theorem ShKept.refl(w:World):ShKept w w:=λ_ _ h=>h
theorem ShKept.trans{w w' w'' : World}(h:ShKept w w')(k:ShKept w' w''):ShKept w w'' := λb sh hb=>k b sh (h b sh hb)
theorem Qn1{w:World}{b:Nat}{sh:TypeId×Nat}(h:w.shape? b=some sh):b<w.heap.size:=by
 unfold World.shape? at h;cases hb:w.heap[b]? with
 | none=>rw[hb] at h; cases h
 | some o=>exact(Array.getElem?_eq_some_iff.1 hb).1
theorem Qjd{w w' : World}{b:Nat}(h:w'.heap[b]? = w.heap[b]?):w'.shape? b=w.shape? b:=by unfold World.shape?; rw[h]
theorem Ql2{w:World}{b:Nat}{us:Array Value}{ty:TypeId}{fr:Nat×Nat}(h:w.heap[b]? = some (.cells us ty fr)):w.shape? b=some (ty,us.size):=by unfold World.shape?; rw[h]
structure Kept (M:Nat->Prop) (K:Nat->Nat->Prop) (w w' : World):Prop where
 os:w'.os=w.os
 tape:w'.tape=w.tape
 output:w'.output=w.output
 size:w.heap.size<=w'.heap.size
 blk:∀ b,M b->w'.heap[b]? = w.heap[b]?
 cell:∀ b o u,K b o->w.cell? ⟨b,o,none⟩=some u->w'.cell? ⟨b,o,none⟩=some u
 shp:ShKept w w'
structure Yld (M:Nat->Prop) (C:Nat->Nat->Prop) (w:World) (M' : Nat->Prop) (K' : Nat->Nat->Prop) (w' : World):Prop where
 os:w'.os=w.os
 tape:w'.tape=w.tape
 output:w'.output=w.output
 size:w.heap.size<=w'.heap.size
 old:∀ b,b<w.heap.size->¬ M b->w'.heap[b]? = w.heap[b]?
 own:∀ b,M' b->b<w'.heap.size/\(M b\/w.heap.size<=b)
 com:∀ b o u,C b o->w.cell? ⟨b,o,none⟩=some u->K' b o/\w'.cell? ⟨b,o,none⟩=some u
 new:∀ b o,K' b o->b<w'.heap.size/\(C b o\/w.heap.size<=b\/M b)
 mono:∀ b o,C b o->K' b o
 shp:ShKept w w'
structure Pro where
 P:Program
 l:Nat
 xs:List (List V)
 st:Nat->(Nat->Prop)->(Nat->Nat->Prop)->World->Prop
 cl:∀ k M K w w', st k M K w->Kept M K w w' -> st k M K w'
 law:∀ k M K C w x (us:Array Value),st k M K w->xs[k]? = some x->us.size=x.length->(∀ (j:Nat) c u,x[j]? = some c->us[j]? = some u->VRel C w c u)->(∀ b o,K b o->C b o) ->
  (∀ b o,C b o->b<w.heap.size/\(M b->K b o))->(∀ b,M b->b<w.heap.size)->YieldAt Fence.wide 0 P l us w λe w' =>
   ∃ k' M' K', ((e = .returned (.bool true)/\k' = k+1)\/(e = .returned (.bool false)/\k' = xs.length+1))/\st k' M' K' w' /\ Yld M C w M' K' w'
structure PS where
 own:Nat->Prop
 rel:Nat->Nat->Prop
 p:Pro
structure Tok where
 len:Nat
 blk:Option Nat
 cells:Nat
 pro:Option PS
def Tok.own(T:Tok)(b:Nat):Prop:=∃ q,T.pro=some q/\q.own b
def Tok.rel(T:Tok)(b o:Nat):Prop:=∃ q,T.pro=some q/\q.rel b o
def Tok.has(T:Tok)(b:Nat):Prop:=T.blk=some b\/T.own b
def Tok.may(T:Tok)(b o:Nat):Prop:=(T.blk=some b->o<T.cells)/\(T.own b->T.rel b o)
def Tok.ok(T:Tok)(w:World):Prop:=∀ q,T.pro=some q->q.p.st T.len q.own q.rel w
theorem Tok.has_row{n:Nat}{g:Option Nat}{c b:Nat}:(Tok.mk n g c none).has b↔g=some b:=⟨λh=>h.elim id λ⟨_,h,_⟩=>(nomatch h),λh=>Or.inl h⟩
theorem Tok.may_row{n:Nat}{g:Option Nat}{c b o:Nat}:(Tok.mk n g c none).may b o↔(g=some b->o<c):=⟨λh=>h.1,λh=>⟨h,λ⟨_,h,_⟩=>(nomatch h)⟩⟩
theorem Tok.has_blk{T:Tok}(h:T.pro=none){b:Nat}:T.has b↔T.blk=some b:=⟨λk=>k.elim id λ⟨_,k,_⟩=>absurd (h.symm.trans k) (by simp),λh=>Or.inl h⟩
structure Tok.le (T T' : Tok):Prop where
 len:T.len<=T'.len
 pro:T'.pro.map PS.p=T.pro.map PS.p
theorem Tok.le.row{T T' : Tok}(h:T.le T')(k:T.pro=none):T'.pro=none:=by
 have:=h.pro;rw[k] at this;cases hp:T'.pro with
 | none=>rfl
 | some q=>rw[hp] at this; cases this
theorem Tok.le.refl(T:Tok):T.le T:=⟨Nat.le_refl _,rfl⟩
theorem Tok.le.trans{T T' T'' : Tok}(h:T.le T')(k:T'.le T''):T.le T'' := ⟨Nat.le_trans h.len k.len,k.pro.trans h.pro⟩
structure Gh where
 com:Nat->Nat->Prop
 name:List Nat
 tok:List Tok
def XRow(C:Nat->Nat->Prop)(w:World)(T:Tok)(a:Option Addr)(cap e size:Nat)(es:List (List V)):Prop :=
 (∀ x ∈ es,x.length=size)/\es.length<=cap/\cap<=maxLen/\((cap=0/\True)\/∃ (b:Nat) (us:Array Value),a=some ⟨b,0,none⟩/\T.blk=some b/\T.cells=0/\w.heap[b]? = some (.cells us e (0,0))/\us.size=cap*size /\
  ∀ (i k:Nat) x c,es[i]? = some x->x[k]? = some c->∃ u,us[i*size+k]? = some u/\u.oneCell' = true/\VRel C w c u)
theorem XRow.mono{C C' : Nat->Nat->Prop}{w w' : World}{T:Tok}{a:Option Addr}{cap e size:Nat}{es:List (List V)}(h:XRow C w T a cap e size es)(hz:w.heap.size<=w'.heap.size)
  (hc:∀ b o u,C b o->w.cell? ⟨b,o,none⟩=some u->C' b o/\w'.cell? ⟨b,o,none⟩=some u) (hb:∀ b,T.blk=some b->w'.heap[b]? = w.heap[b]?):XRow C' w' T a cap e size es:=by
 obtain⟨h1,h2,h3,h4⟩:=h;refine⟨h1,h2,h3,h4.imp id ?_⟩;rintro ⟨b,us,g1,g2,g3,g4,g5,g6⟩;refine⟨b,us,g1,g2,g3,(hb b g2).trans g4,g5,λi k x c hx hc' => ?_⟩;obtain⟨u,q1,q2,q3⟩:=g6 i k x c hx hc';exact⟨u,q1,q2,q3.mono hz hc⟩
inductive XRel (C:Nat->Nat->Prop) (w:World) (T:Tok):XD->Value->Prop where
 | sl (e size:Nat) (es:List (List V)) (a:Option Addr) (cap:Nat):(a=none->cap=0)->XRow C w T a cap e size es->XRel C w T (.sl e size es) (.slice a es.length cap)
 | el (e size:Nat) (es:List (List V)) (i:Nat) (c:List V) (off b cap:Nat):es[i]? = some c->XRow C w T (some ⟨b,0,none⟩) cap e size es->XRel C w T (.el e size es i c off) (.pointer (some ⟨b,i*size+off,none⟩))
theorem XRel.mono{C C' : Nat->Nat->Prop}{w w' : World}{T:Tok}{X:XD}{u:Value}(h:XRel C w T X u)(hz:w.heap.size<=w'.heap.size)
  (hc:∀ b o u,C b o->w.cell? ⟨b,o,none⟩=some u->C' b o/\w'.cell? ⟨b,o,none⟩=some u) (hb:∀ b,T.blk=some b->w'.heap[b]? = w.heap[b]?):XRel C' w' T X u:=by
 cases h with
 | sl e size es a cap h1 h2=>exact .sl e size es a cap h1 (h2.mono hz hc hb)
 | el e size es i c off b cap h1 h2=>exact .el e size es i c off b cap h1 (h2.mono hz hc hb)
theorem XRel.one{C:Nat->Nat->Prop}{w:World}{T:Tok}{X:XD}{u:Value}(h:XRel C w T X u):u.oneCell' = true:=by cases h<;>rfl
def Qv3(e:Nat):Nat:=if e<1000000 then e else if e<2000000 then e-1000000 else e-2000000
theorem Qqz{e:Nat}(h:e<1000000):Qv3 e=e:=if_pos h
theorem Q5e{e:Nat}(h:e<1000000):Qv3 (e+1000000)=e:=by unfold Qv3; rw[if_neg (by omega),if_pos (by omega)]; omega
theorem Q1i(e:Nat):Qv3 (e+2000000)=e:=by unfold Qv3; rw[if_neg (by omega),if_neg (by omega)]; omega
def RowFz(bz:Bool)(w:World)(b:Nat)(us:Array Value)(e:TypeId):Prop:=∃ fr,w.heap[b]? = some (.cells us e fr)/\(fr=(0,0)\/bz=true/\fr=(us.size,us.size+1))
theorem RowFz.no{w:World}{b:Nat}{us:Array Value}{e:TypeId}(h:RowFz false w b us e):w.heap[b]? = some (.cells us e (0,0)):=by
 obtain⟨fr,h1,h2 | h2⟩:=h
 .rw[h1,h2]
 .exact absurd h2.1 (by decide)
theorem RowFz.lt{w:World}{b:Nat}{us:Array Value}{e:TypeId}{m:Nat}(h:RowFz (decide (2000000<=m)) w b us e)(hm:m<2000000):w.heap[b]? = some (.cells us e (0,0)):=by
 rw[decide_eq_false (by omega)] at h; exact h.no
theorem RowFz.of{bz:Bool}{w:World}{b:Nat}{us:Array Value}{e:TypeId}(h:w.heap[b]? = some (.cells us e (0,0))):RowFz bz w b us e:=⟨_,h,.inl rfl⟩
theorem RowFz.eq{bz:Bool}{w w' : World}{b:Nat}{us:Array Value}{e:TypeId}(h:RowFz bz w b us e)(k:w'.heap[b]? = w.heap[b]?):RowFz bz w' b us e:=by
 obtain⟨fr,h1,h2⟩:=h;exact⟨fr,k.trans h1,h2⟩
def Own(G:Gh)(w:World)(u:Value)(n t e size:Nat):Prop :=
 ∃ (a:Option Addr) (cap:Nat),u = .slice a n cap/\((cap=0/\∀ ad,a=some ad->ad.block<w.heap.size)\/(∃ (b:Nat) (us:Array Value) (T:Tok),a=some ⟨b,0,none⟩/\G.tok[t]? = some T/\T.blk=some b/\T.cells=n*size /\
  RowFz (decide (2000000<=e)) w b us (Qv3 e)/\us.size=cap*size)\/(1000000<=e/\cap=n))
inductive DRel (G:Gh) (w:World):D->Value->Prop where
 | p (x:V) (u:Value):VRel G.com w x u->DRel G w (.p x) u
 | ptr (nm off b:Nat):G.name[nm]? = some b->DRel G w (.ptr nm off) (.pointer (some ⟨b,off,none⟩))
 | own (t e size:Nat) (es:List (List V)) (u:Value) (T:Tok):VRel G.com w (.sl false es) u->(∀ x ∈ es,x.length=size)->G.tok[t]? = some T->T.pro=none->es.length<=T.len ->
   (es.length=T.len->Own G w u es.length t e size)->DRel G w (.own t e size es) u
 | fn (f:Fn) (first cap:List D) (us vs:Array Value):first.length=us.size->cap.length=vs.size ->
   (∀ (j:Nat) c u,first[j]? = some c->us[j]? = some u->DRel G w c u)->(∀ (j:Nat) c u,cap[j]? = some c->vs[j]? = some u->DRel G w c u) ->
   DRel G w (.fn f first cap) (.func f us vs)
 | yld (t:Nat) (T:Tok) (p:Pro):G.tok[t]? = some T->T.pro.map PS.p=some p->DRel G w (.yld p.P t p.xs) (.func (.yield p.l) #[] #[])
 | sp (P:Program) (u:Nat) (b:Bool) (nm off k e n:Nat) (v:Value):G.name[nm]? = some k->w.shape? k=some (e,n)->off<n->liesAt P P.depth e (n / P.cellsOf e) off u 1=true->(b=false->v = .pointer none)->(b=true->v = .pointer (some ⟨k,off,none⟩))->DRel G w (.sp P u b nm off) v
 | agg (cs:List D) (us:Array Value):cs.length=us.size->(∀ (j:Nat) c u,cs[j]? = some c->us[j]? = some u->u.oneCell' = true) ->
   (∀ (j:Nat) c u,cs[j]? = some c->us[j]? = some u->DRel G w c u)->DRel G w (.agg cs) (.agg us)
 | tup (cs:List D) (us:Array Value):cs.length=us.size ->
   (∀ (j:Nat) c u,cs[j]? = some c->us[j]? = some u->DRel G w c u)->DRel G w (.tup cs) (.tuple us)
 | sf (ds:List D) (b:Nat) (us:Nat->Value):(∀ (i:Nat) d,ds[i]? = some d->G.com b i/\w.cell? ⟨b,i,none⟩=some (us i)/\(us i).oneCell' = true)->(∀ (i:Nat) d,ds[i]? = some d->DRel G w d (us i)) ->
   DRel G w (.sf ds) (.slice (some ⟨b,0,none⟩) ds.length ds.length)
 | ef (d:D) (b off:Nat) (u:Value):G.com b off->w.cell? ⟨b,off,none⟩=some u->DRel G w d u->DRel G w (.ef d) (.pointer (some ⟨b,off,none⟩))
 | x (t v:Nat) (X:XD) (u:Value) (T:Tok):G.tok[t]? = some T->T.pro=none->v<=T.len->u.oneCell' = true->(v=T.len->XRel G.com w T X u)->DRel G w (.x t v X) u
 | mh (nm b:Nat):G.name[nm]? = some b->DRel G w (.mh nm) (.map (some b))
 | undef:DRel G w .undef undef
structure Ext (G:Gh) (w:World) (G' : Gh) (w' : World):Prop where
 os:w'.os=w.os
 tape:w'.tape=w.tape
 output:w'.output=w.output
 size:w.heap.size<=w'.heap.size
 com:∀ b o u,G.com b o->w.cell? ⟨b,o,none⟩=some u->G'.com b o/\w'.cell? ⟨b,o,none⟩=some u
 old:∀ b,b<w.heap.size->b ∉ G.name->(∀ T ∈ G.tok,¬ T.has b)->w'.heap[b]? = w.heap[b]?
 new:∀ b o,G'.com b o->G.com b o\/w.heap.size<=b\/b ∈ G.name\/∃ T ∈ G.tok,T.has b
 mine:∀ b,(b ∈ G'.name\/∃ T ∈ G'.tok,T.has b)->w.heap.size<=b\/b ∈ G.name\/∃ T ∈ G.tok,T.has b
 mono:∀ b o,G.com b o->G'.com b o
 shp:ShKept w w'
theorem Ext.refl(G:Gh)(w:World):Ext G w G w :=
 ⟨rfl,rfl,rfl,Nat.le_refl _,λ_ _ _ h k=>⟨h,k⟩,λ_ _ _ _=>rfl,λ_ _ h =>.inl h,λ_ h =>.inr h,λ_ _ h=>h,.refl w⟩
theorem Ext.trans{G G' G'' : Gh}{w w' w'' : World}(h:Ext G w G' w')(k:Ext G' w' G'' w''):Ext G w G'' w'' := by
 refine⟨k.os.trans h.os,k.tape.trans h.tape,k.output.trans h.output,Nat.le_trans h.size k.size,λb o u hc hu=>?_,λb hb hn ht=>?_,λb o hc=>?_,λb hb=>?_,λb o hc=>k.mono b o (h.mono b o hc),h.shp.trans k.shp⟩
 .obtain⟨h1,h2⟩:=h.com b o u hc hu;exact k.com b o u h1 h2
 .rw[k.old b (Nat.lt_of_lt_of_le hb h.size) ?_ ?_,h.old b hb hn ht]
  .intro hm;rcases h.mine b (.inl hm) with h1 | h1 | ⟨T,h1,h2⟩
   .omega
   .exact hn h1
   .exact ht T h1 h2
  .intro T hT hTb;rcases h.mine b (.inr ⟨T,hT,hTb⟩) with h1 | h1 | ⟨T', h1,h2⟩
   .omega
   .exact hn h1
   .exact ht T' h1 h2
 .rcases k.new b o hc with h1 | h1 | h1 | h1
  .exact h.new b o h1
  .exact .inr (.inl (Nat.le_trans h.size h1))
  .exact .inr (h.mine b (.inl h1))
  .exact .inr (h.mine b (.inr h1))
 .rcases k.mine b hb with h1 | h1 | h1
  .exact .inl (Nat.le_trans h.size h1)
  .exact h.mine b (.inl h1)
  .exact h.mine b (.inr h1)
structure Stp (G:Gh) (w:World) (G' : Gh) (w' : World):Prop where
 ext:Ext G w G' w'
 name:∀ (nm b:Nat),G.name[nm]? = some b->G'.name[nm]? = some b
 tok:∀ (t:Nat) (T:Tok),G.tok[t]? = some T->∃ T', G'.tok[t]? = some T' /\ T.le T' /\
  (T.len=T'.len->T' = T/\∀ b,T.has b->w'.heap[b]? = w.heap[b]?)
theorem Stp.refl(G:Gh)(w:World):Stp G w G w:=⟨.refl G w,λ_ _ h=>h,λ_ T h=>⟨T,h,.refl T,λ_=>⟨rfl,λ_ _=>rfl⟩⟩⟩
theorem Stp.trans{G G' G'' : Gh}{w w' w'' : World}(h:Stp G w G' w')(k:Stp G' w' G'' w''):Stp G w G'' w'' := by
 refine⟨h.ext.trans k.ext,λnm b hb=>k.name nm b (h.name nm b hb),λt T hT=>?_⟩;obtain⟨T', hT', h1,h2⟩:=h.tok t T hT;obtain⟨T'', hT'', k1,k2⟩:=k.tok t T' hT';refine⟨T'', hT'', h1.trans k1,λhe=>?_⟩;obtain⟨e1,f1⟩:=h2 (by have:=k1.len; have:=h1.len; omega);obtain⟨e2,f2⟩:=k2 (by have:=k1.len; have:=h1.len; omega);subst e1;exact⟨e2,λb hb=>(f2 b hb).trans (f1 b hb)⟩
structure Ex (B:Nat×Nat) (G:Gh) (w:World) (G' : Gh) (w' : World):Prop where
 ext:Ext G w G' w'
 name:∀ (nm b:Nat),nm<B.1->G.name[nm]? = some b->G'.name[nm]? = some b
 tok:∀ (t:Nat) (T:Tok),t<B.2->G.tok[t]? = some T->∃ T', G'.tok[t]? = some T' /\ T.le T' /\
  (T.len=T'.len->T' = T/\∀ b,T.has b->w'.heap[b]? = w.heap[b]?)
theorem Stp.ex{G G' : Gh}{w w' : World}(h:Stp G w G' w')(B:Nat×Nat):Ex B G w G' w' := ⟨h.ext,λnm b _ hb=>h.name nm b hb,λt T _ hT=>h.tok t T hT⟩
theorem Ex.refl(B:Nat×Nat)(G:Gh)(w:World):Ex B G w G w:=(Stp.refl G w).ex B
theorem Ex.trans{B:Nat×Nat}{G G' G'' : Gh}{w w' w'' : World}(h:Ex B G w G' w')(k:Ex B G' w' G'' w''):Ex B G w G'' w'' := by
 refine⟨h.ext.trans k.ext,λnm b hl hb=>k.name nm b hl (h.name nm b hl hb),λt T hl hT=>?_⟩;obtain⟨T', hT', h1,h2⟩:=h.tok t T hl hT;obtain⟨T'', hT'', k1,k2⟩:=k.tok t T' hl hT';refine⟨T'', hT'', h1.trans k1,λhe=>?_⟩;obtain⟨e1,f1⟩:=h2 (by have:=k1.len; have:=h1.len; omega);obtain⟨e2,f2⟩:=k2 (by have:=k1.len; have:=h1.len; omega);subst e1;exact⟨e2,λb hb=>(f2 b hb).trans (f1 b hb)⟩
theorem DRel.mono{G G' : Gh}{w w' : World}{d:D}{u:Value}(h:DRel G w d u)(k:Stp G w G' w'):DRel G' w' d u:=by
 induction h with
 | p x u h=>exact .p x u (h.mono k.ext.size k.ext.com)
 | ptr nm off b h=>exact .ptr nm off b (k.name nm b h)
 | own t e size es u T h1 h2 h3 h0 h4 h5 =>
  obtain⟨T', hT', l1,l2⟩:=k.tok t T h3;refine .own t e size es u T' (h1.mono k.ext.size k.ext.com) h2 hT' (l1.row h0) (Nat.le_trans h4 l1.len) λhe=>?_
  have e1:T.len=T'.len:=by have:=l1.len; omega
  obtain⟨rfl,hb⟩:=l2 e1;obtain⟨a,cap,rfl,h6⟩:=h5 he;refine⟨a,cap,rfl,h6.imp (λh=>⟨h.1,λad had=>Nat.lt_of_lt_of_le (h.2 ad had) k.ext.size⟩) (Or.imp_left ?_)⟩;rintro ⟨b,us,T2,ha,g1,g2,g3,g4,g5⟩;have:T2=T' := by rw[h3] at g1; exact(Option.some.inj g1).symm
  subst this;exact⟨b,us,T2,ha,hT', g2,g3,g4.eq (hb b (.inl g2)),g5⟩
 | fn f first cap us vs h1 h2 _ _ ih1 ih2=>exact .fn f first cap us vs h1 h2 ih1 ih2
 | yld t T p h1 h2 =>
  obtain⟨T', hT', l1,-⟩:=k.tok t T h1;exact .yld t T' p hT' (l1.pro.trans h2)
 | sp P u b nm off i e n v h1 h2 h3 h4 h5 h6=>exact .sp P u b nm off i e n v (k.name nm i h1) (k.ext.shp i _ h2) h3 h4 h5 h6
 | agg cs us h1 h2 _ ih=>exact .agg cs us h1 h2 ih
 | tup cs us h1 _ ih=>exact .tup cs us h1 ih
 | sf ds b us h1 _ ih=>exact .sf ds b us (λi d hd=>⟨(k.ext.com _ _ _ (h1 i d hd).1 (h1 i d hd).2.1).1,(k.ext.com _ _ _ (h1 i d hd).1 (h1 i d hd).2.1).2,(h1 i d hd).2.2⟩) ih
 | ef d b off u h1 h2 _ ih=>exact .ef d b off u (k.ext.com _ _ _ h1 h2).1 (k.ext.com _ _ _ h1 h2).2 ih
 | x t v X u T h1 h0 h2 h3 h4 =>
  obtain⟨T', hT', l1,l2⟩:=k.tok t T h1;refine .x t v X u T' hT' (l1.row h0) (Nat.le_trans h2 l1.len) h3 λhe=>?_
  have e1:T.len=T'.len:=by have:=l1.len; omega
  obtain⟨rfl,hb⟩:=l2 e1;exact(h4 he).mono k.ext.size k.ext.com λb h=>hb b (.inl h)
 | mh nm b h=>exact .mh nm b (k.name nm b h)
 | undef=>exact .undef
def MapRows(C:Nat->Nat->Prop)(w:World)(ms:List (List V))(es:Array MapEntry):Prop :=
 ms.length=es.size/\∀ (i:Nat) m e,ms[i]? = some m->es[i]? = some e->∃ k v,m=[k,v]/\VRel C w k e.key/\VRel C w v e.val
theorem MapRows.mono{C C' : Nat->Nat->Prop}{w w' : World}{ms:List (List V)}{es:Array MapEntry}(h:MapRows C w ms es)(hz:w.heap.size<=w'.heap.size)
  (hc:∀ b o u,C b o->w.cell? ⟨b,o,none⟩=some u->C' b o/\w'.cell? ⟨b,o,none⟩=some u):MapRows C' w' ms es :=
 ⟨h.1,λi m e hm he=>by
  obtain⟨k,v,h1,h2,h3⟩:=h.2 i m e hm he;exact⟨k,v,h1,h2.mono hz hc,h3.mono hz hc⟩⟩
inductive VarAt (G:Gh) (w:World) (b:Nat) (cs:List D):Prop where
 | cells (us:Array Value) (ty:TypeId):w.heap[b]? = some (.cells us ty (0,0))->us.size=cs.length->(∀ (j:Nat) c u,cs[j]? = some c->us[j]? = some u->u.oneCell' = true/\DRel G w c u)->VarAt G w b cs
 | map (fl:Bool) (ms:List (List V)) (es:Array MapEntry) (clock:Nat):cs=[.tup [.p (.sl fl ms)]]->w.heap[b]? = some (.map es clock)->MapRows G.com w ms es->VarAt G w b cs
theorem VarAt.mono{G G' : Gh}{w w' : World}{b:Nat}{cs:List D}(h:VarAt G w b cs)(k:Stp G w G' w')(hb:w'.heap[b]? = w.heap[b]?):VarAt G' w' b cs:=by
 cases h with
 | cells us ty h1 h2 h3=>exact .cells us ty (hb.trans h1) h2 λj c u hc hu=>⟨(h3 j c u hc hu).1,(h3 j c u hc hu).2.mono k⟩
 | map fl ms es clock h1 h2 h3=>exact .map fl ms es clock h1 (hb.trans h2) (h3.mono k.ext.size k.ext.com)
theorem VarAt.lt{G:Gh}{w:World}{b:Nat}{cs:List D}(h:VarAt G w b cs):b<w.heap.size:=by
 cases h with
 | cells us ty h1=>exact(Array.getElem?_eq_some_iff.1 h1).1
 | map fl ms es clock _ h1=>exact(Array.getElem?_eq_some_iff.1 h1).1
def Qaby:List D->Bool
 | []=>true
 | .tup _::_=>false
 | _::r=>Qaby r
theorem VarAt.row{G:Gh}{w:World}{b:Nat}{cs:List D}(h:VarAt G w b cs)(hn:Qaby cs=true):∃ us ty,w.heap[b]? = some (.cells us ty (0,0))/\us.size=cs.length/\∀ (j:Nat) c u,cs[j]? = some c->us[j]? = some u->u.oneCell' = true/\DRel G w c u:=by
 cases h with
 | cells us ty h1 h2 h3=>exact⟨us,ty,h1,h2,h3⟩
 | map fl ms es clock h1=>subst h1; cases hn
theorem VarAt.at{G:Gh}{w:World}{b off:Nat}{cs:List D}{c:D}(h:VarAt G w b cs)(hc:cs[off]? = some c)(hn:∀ ds,c ≠ .tup ds):∃ us ty,w.heap[b]? = some (.cells us ty (0,0))/\us.size=cs.length/\∀ (j:Nat) c u,cs[j]? = some c->us[j]? = some u->u.oneCell' = true/\DRel G w c u:=by
 cases h with
 | cells us ty h1 h2 h3=>exact⟨us,ty,h1,h2,h3⟩
 | map fl ms es clock h1 =>
  subst h1;cases off with
  | zero=>cases hc; exact absurd rfl (hn _)
  | succ n=>simp at hc
structure S where
 heap:List (List D)
 live:List Nat
structure Inv (G:Gh) (s:S) (w:World):Prop where
 com:∀ b o,G.com b o->b<w.heap.size/\b ∉ G.name/\∀ T ∈ G.tok,T.may b o
 names:G.name.length=s.heap.length
 nodup:G.name.Nodup
 var:∀ (i b:Nat) cs,G.name[i]? = some b->s.heap[i]? = some cs->VarAt G w b cs
 live:G.tok.map (·.len)=s.live
 tok:∀ (t:Nat) T b,G.tok[t]? = some T->T.has b->b<w.heap.size/\b ∉ G.name/\∀ (t' : Nat) T', G.tok[t']? = some T' -> T'.has b->t' = t
 pro:∀ T ∈ G.tok,T.ok w/\∀ b o,T.rel b o->G.com b o
 glob:GlobOk G.com w
theorem Tok.ok_ext{G G' : Gh}{w w' : World}{T:Tok}(h:T.ok w/\∀ b o,T.rel b o->G.com b o)(k:Ext G w G' w')(hb:∀ b,T.has b->w'.heap[b]? = w.heap[b]?):T.ok w' := λq hq =>
 q.p.cl _ _ _ _ _ (h.1 q hq) ⟨k.os,k.tape,k.output,k.size,λb hm=>hb b (.inr ⟨q,hq,hm⟩),λb o u hr hu=>(k.com b o u (h.2 b o ⟨q,hq,hr⟩) hu).2,k.shp⟩
def EnvRel(G:Gh)(w:World)(env:List (Nat×D))(a:Act):Prop:=∀ t d,env.lookup t=some d->t<a.tmps.size/\DRel G w d (a.tmps.getD t undef)
theorem EnvRel.mono{G G' : Gh}{w w' : World}{env:List (Nat×D)}{a:Act}(h:EnvRel G w env a)(k:Stp G w G' w'):EnvRel G' w' env a :=
 λt d hd=>⟨(h t d hd).1,(h t d hd).2.mono k⟩
theorem Qxe{w:World}{b o:Nat}{u:Value}(h:w.cell? ⟨b,o,none⟩=some u):b<w.heap.size:=World.block_lt_of_cell? w ⟨b,o,none⟩ h
theorem Qaah{u:Value}(h:scal u=true):u.oneCell' = true:=by
 cases u<;>first | rfl | (simp[scal] at h)
theorem Stp.drewN(G:Gh)(w:World)(k:Nat):Stp G w G { w with drawn:=k } :=
 ⟨⟨rfl,rfl,rfl,Nat.le_refl _,λ_ _ _ h k=>⟨h,k⟩,λ_ _ _ _=>rfl,λ_ _ h =>.inl h,λ_ h =>.inr h,λ_ _ h=>h,λ_ _ h=>h⟩,λ_ _ h=>h,
  λ_ T h=>⟨T,h,.refl T,λ_=>⟨rfl,λ_ _=>rfl⟩⟩⟩
theorem Inv.mono{G:Gh}{s:S}{w w' : World}(h:Inv G s w)(k:Stp G w G w')(hn:∀ b ∈ G.name,w'.heap[b]? = w.heap[b]?):Inv G s w' := by
 refine⟨λb o hc=>?_,h.names,h.nodup,λi b cs hb hcs=>?_,h.live,λt T b hT hb=>?_,λT hT=>⟨Tok.ok_ext (h.pro T hT) k.ext λb hb=>?_,(h.pro T hT).2⟩,h.glob.mono k.ext.com⟩
 rotate_right
 .obtain⟨t,ht⟩:=List.getElem?_of_mem hT;obtain⟨T', h1,-,h2⟩:=k.tok t T ht;rw[ht] at h1; cases h1;exact(h2 rfl).2 b hb
 .obtain⟨h1,h2⟩:=h.com b o hc;exact⟨Nat.lt_of_lt_of_le h1 k.ext.size,h2⟩
 .exact(h.var i b cs hb hcs).mono k (hn b (List.mem_of_getElem? hb))
 .obtain⟨h1,h2⟩:=h.tok t T b hT hb;exact⟨Nat.lt_of_lt_of_le h1 k.ext.size,h2⟩
theorem Inv.drewN{G:Gh}{s:S}{w:World}(h:Inv G s w)(k:Nat):Inv G s { w with drawn:=k }:=h.mono (Stp.drewN G w k) λ_ _=>rfl
theorem Qfo(w:World)(o:Obj)(k:Nat):(w.alloc o).heap[k]? = if k=w.heap.size then some o else w.heap[k]? := by
 show(w.heap.push o)[k]? = _;rw[Array.getElem?_push]
theorem Q2g(w:World)(o:Obj):ShKept w (w.alloc o):=λb sh h=>by
 rw[Qjd (w:=w) (by rw[Qfo,if_neg (by have:=Qn1 h; omega)])]; exact h
theorem Qadi(w:World)(o:Obj)(b i:Nat)(h:b<w.heap.size):(w.alloc o).cell? ⟨b,i,none⟩=w.cell? ⟨b,i,none⟩:=World.cell?_alloc_lt w o ⟨b,i,none⟩ h
theorem Stp.alloc{G G' : Gh}{w:World}(o:Obj)(hc:∀ b i,G.com b i->G'.com b i)(hc' : ∀ b i,G'.com b i->G.com b i\/b=w.heap.size)
  (hn:∀ (nm b:Nat),G.name[nm]? = some b->G'.name[nm]? = some b) (hm:∀ b,b ∈ G'.name->b ∈ G.name\/b=w.heap.size)
  (ht:∀ (t:Nat) T,G.tok[t]? = some T->G'.tok[t]? = some T) (ht' : ∀ T b,T ∈ G'.tok->T.has b->T ∈ G.tok\/b=w.heap.size)
  (hb:∀ (t:Nat) T b,G.tok[t]? = some T->T.has b->b<w.heap.size):Stp G w G' (w.alloc o):=by
 refine⟨⟨rfl,rfl,rfl,by simp,λb i u h hu=>⟨hc b i h,?_⟩,λb h _ _=>?_,λb i h=>?_,λb h=>?_,hc,Q2g w o⟩,hn,λt T h=>⟨T,ht t T h,.refl T,λ_=>⟨rfl,λb hb' => ?_⟩⟩⟩
 .rw[Qadi _ _ _ _ (Qxe hu)]; exact hu
 .rw[Qfo,if_neg (by omega)]
 .rcases hc' b i h with h | h
  .exact .inl h
  .exact .inr (.inl (by omega))
 .rcases h with h | ⟨T,h,hb'⟩
  .rcases hm b h with h | h
   .exact .inr (.inl h)
   .exact .inl (by omega)
  .rcases ht' T b h hb' with h | h
   .exact .inr (.inr ⟨T,h,hb'⟩)
   .exact .inl (by omega)
 .have:=hb t T b h hb';rw[Qfo,if_neg (by omega)]
theorem Inv.proS{G G' : Gh}{s:S}{w w' : World}(h:Inv G s w)(k:Stp G w G' w')(he:G'.tok=G.tok):∀ T ∈ G'.tok,T.ok w' /\ ∀ b o,T.rel b o->G'.com b o:=λT hT=>by
 rw[he] at hT;refine⟨Tok.ok_ext (h.pro T hT) k.ext λb hb=>?_,λb o hr=>k.ext.mono b o ((h.pro T hT).2 b o hr)⟩;obtain⟨t,ht⟩:=List.getElem?_of_mem hT;obtain⟨T', h1,-,h2⟩:=k.tok t T ht;rw[he,ht] at h1; cases h1;exact(h2 rfl).2 b hb
theorem Qd5{G:Gh}{s:S}{w:World}(h:Inv G s w):∀ b ∈ G.name,b<w.heap.size:=λb hb=>by
 obtain⟨i,hi⟩:=List.getElem?_of_mem hb;have hil:=(List.getElem?_eq_some_iff.1 hi).1;have hil2:i<s.heap.length:=by rw[<-h.names]; exact hil
 exact(h.var i b s.heap[i] hi (List.getElem?_eq_getElem hil2)).lt
theorem Q1j{G:Gh}{s:S}{w:World}(h:Inv G s w)(ds:List D)(o:Obj)(hd:Stp G w { G with name:=G.name++[w.heap.size] } (w.alloc o)->VarAt { G with name:=G.name++[w.heap.size] } (w.alloc o) w.heap.size ds) :
  Stp G w { G with name:=G.name++[w.heap.size] } (w.alloc o)/\Inv { G with name:=G.name++[w.heap.size] } { s with heap:=s.heap++[ds] } (w.alloc o):=by
 have hlt:=Qd5 h;have hst:Stp G w { G with name:=G.name++[w.heap.size] } (w.alloc o) :=
  Stp.alloc (G' := { G with name:=G.name++[w.heap.size] }) _ (λ_ _ h=>h) (λ_ _ h =>.inl h) (λnm b hb=>by
   show(G.name++[w.heap.size])[nm]? = some b;rw[List.getElem?_append_left (List.getElem?_eq_some_iff.1 hb).1]; exact hb)
   (λb hb=>by simpa using hb) (λ_ _ h=>h) (λT b hT _ =>.inl hT) (λt T b hT hb=>(h.tok t T b hT hb).1)
 refine⟨hst,⟨λb o hc=>?_,by simp[h.names],?_,λi b cs hb hcs=>?_,h.live,λt T b hT hb=>?_,h.proS hst rfl,h.glob.mono hst.ext.com⟩⟩
 .obtain⟨h1,h2,h3⟩:=h.com b o hc;refine⟨by simp; omega,?_,h3⟩;simp only[List.mem_append,List.mem_singleton,not_or];exact⟨h2,by omega⟩
 .rw[List.nodup_append];refine⟨h.nodup,by simp,λa ha b hb=>?_⟩;simp only[List.mem_singleton] at hb;have:=hlt a ha;omega
 .by_cases hi:i<G.name.length
  .rw[List.getElem?_append_left hi] at hb;rw[List.getElem?_append_left (by rw[<-h.names]; exact hi)] at hcs;have hv:=h.var i b cs hb hcs;exact hv.mono hst (by rw[Qfo,if_neg (by have:=hv.lt; omega)])
  .have hi2:i=G.name.length:=by
    have:=(List.getElem?_eq_some_iff.1 hb).1;simp at this; omega
   subst hi2;rw[List.getElem?_concat_length] at hb;rw[h.names,List.getElem?_concat_length] at hcs;cases hb; cases hcs;exact hd hst
 .obtain⟨h1,h2,h3⟩:=h.tok t T b hT hb;refine⟨by simp; omega,?_,h3⟩;simp only[List.mem_append,List.mem_singleton,not_or];exact⟨h2,by omega⟩
theorem Q1k{G:Gh}{s:S}{w:World}(h:Inv G s w)(ds:List D)(us:Array Value)(ty:TypeId)(hl:us.size=ds.length)
  (hd:∀ (j:Nat) c u,ds[j]? = some c->us[j]? = some u->u.oneCell' = true/\DRel G w c u) :
  Stp G w { G with name:=G.name++[w.heap.size] } (w.alloc (.cells us ty))/\Inv { G with name:=G.name++[w.heap.size] } { s with heap:=s.heap++[ds] } (w.alloc (.cells us ty)) :=
 Q1j h ds _ λhst =>.cells us ty (by rw[Qfo,if_pos rfl]) hl λj c u hc hu=>⟨(hd j c u hc hu).1,(hd j c u hc hu).2.mono hst⟩
def Gh.with(G:Gh)(b:Nat):Gh:={ G with com:=λc o=>G.com c o\/c=b }
theorem Quv{G:Gh}{s:S}{w:World}(h:Inv G s w)(us:Array Value)(ty:TypeId)(fr:Nat×Nat:=(0,0)) :
  Stp G w (G.with w.heap.size) (w.alloc (.cells us ty fr))/\Inv (G.with w.heap.size) s (w.alloc (.cells us ty fr)):=by
 have hlt:=Qd5 h;have hst:Stp G w (G.with w.heap.size) (w.alloc (.cells us ty fr)) :=
  Stp.alloc (G' := G.with w.heap.size) _ (λ_ _ h =>.inl h) (λ_ _ h=>h) (λnm b hb=>hb) (λb hb =>.inl hb) (λ_ _ h=>h) (λT b hT _ =>.inl hT) (λt T b hT hb=>(h.tok t T b hT hb).1)
 refine⟨hst,⟨λb o hc=>?_,h.names,h.nodup,λi b cs hb hcs=>?_,h.live,λt T b hT hb=>?_,h.proS hst rfl,h.glob.mono hst.ext.com⟩⟩
 .rcases hc with hc | hc
  .obtain⟨h1,h2⟩:=h.com b o hc;exact⟨by simp; omega,h2⟩
  .subst hc;have key:∀ T ∈ G.tok,¬ T.has w.heap.size:=λT hT hb=>by
    obtain⟨t,ht⟩:=List.getElem?_of_mem hT;exact absurd (h.tok t T _ ht hb).1 (Nat.lt_irrefl _)
   exact⟨by simp,λhm=>Nat.lt_irrefl _ (hlt _ hm),λT hT=>⟨λhb=>absurd (.inl hb) (key T hT),λhb=>absurd (.inr hb) (key T hT)⟩⟩
 .have hv:=h.var i b cs hb hcs;exact hv.mono hst (by rw[Qfo,if_neg (by have:=hv.lt; omega)])
 .obtain⟨h1,h2⟩:=h.tok t T b hT hb;exact⟨by simp; omega,h2⟩
theorem Qaai{G:Gh}{s:S}{w:World}(h:Inv G s w)(nm b:Nat)(hb:G.name[nm]? = some b)(ds:List D)(w' : World)
  (h1:w'.os=w.os) (h2:w'.tape=w.tape) (h3:w'.output=w.output) (h4:w'.heap.size=w.heap.size) (hsh:∀ sh,w.shape? b=some sh->w'.shape? b=some sh) (h6:∀ k,k≠b->w'.heap[k]? = w.heap[k]?) (hd:Stp G w G w' -> VarAt G w' b ds) :
  Stp G w G w' /\ Inv G { s with heap:=s.heap.set nm ds } w' := by
 have hbm:b ∈ G.name:=List.mem_of_getElem? hb;have hst:Stp G w G w' := by
  refine⟨⟨h1,h2,h3,by omega,λc o u hc hu=>⟨hc,?_⟩,λc hc hn _=>h6 c (λe=>hn (e ▸ hbm)),λ_ _ h =>.inl h,λ_ h =>.inr h,λ_ _ h=>h,λk sh hk=>?_⟩,λ_ _ h=>h,λt T hT=>⟨T,hT,.refl T,λ_=>⟨rfl,λc hc=>?_⟩⟩⟩
  .have hne:c≠b:=λe=>(h.com c o hc).2.1 (e ▸ hbm)
   rw[World.cell?_of_block (w:=w) (h6 c hne)]; exact hu
  .by_cases hkb:k=b
   .subst hkb;exact hsh sh hk
   .rw[Qjd (h6 k hkb)]; exact hk
  .exact h6 c λe=>(h.tok t T c hT hc).2.1 (e ▸ hbm)
 refine⟨hst,⟨λc o hc=>by rw[h4]; exact h.com c o hc,by simp[h.names],h.nodup,λi c cs hc hcs=>?_,h.live,λt T c hT hc=>by rw[h4]; exact h.tok t T c hT hc,h.proS hst rfl,h.glob.mono hst.ext.com⟩⟩;by_cases hi:i=nm
 .subst hi;have hlt:i<s.heap.length:=by rw[<-h.names]; exact(List.getElem?_eq_some_iff.1 hb).1
  rw[List.getElem?_set_self hlt] at hcs;rw[hb] at hc;cases hc; cases hcs;exact hd hst
 .rw[List.getElem?_set_ne (λe=>hi e.symm)] at hcs;have hne:c≠b:=λe=>by
   subst e;exact hi ((List.getElem?_inj (List.getElem?_eq_some_iff.1 hc).1 h.nodup).1 (hc.trans hb.symm))
  exact(h.var i c cs hc hcs).mono hst (h6 c hne)
theorem Q5f{G:Gh}{s:S}{w:World}(h:Inv G s w)(nm b:Nat)(hb:G.name[nm]? = some b)(us:Array Value)(ty:TypeId)(hw:w.heap[b]? = some (.cells us ty (0,0)))
  (ds:List D) (vs:Array Value) (hl:vs.size=ds.length) (hvs:vs.size=us.size) (hd:∀ (j:Nat) c u,ds[j]? = some c->vs[j]? = some u->u.oneCell' = true/\DRel G w c u) (w' : World)
  (h1:w'.os=w.os) (h2:w'.tape=w.tape) (h3:w'.output=w.output) (h4:w'.heap.size=w.heap.size) (h5:w'.heap[b]? = some (.cells vs ty (0,0))) (h6:∀ k,k≠b->w'.heap[k]? = w.heap[k]?) :
  Stp G w G w' /\ Inv G { s with heap:=s.heap.set nm ds } w' :=
 Qaai h nm b hb ds w' h1 h2 h3 h4 (λsh hk=>by rw[Ql2 hw] at hk; rw[Ql2 h5,hvs]; exact hk) h6 λhst =>.cells vs ty h5 hl λj c u hc hu=>⟨(hd j c u hc hu).1,(hd j c u hc hu).2.mono hst⟩
theorem Inv.setCell{G:Gh}{s:S}{w:World}(h:Inv G s w){nm off:Nat}{cs:List D}{d' : D}(hc:s.heap[nm]? = some cs)(hne:∀ ds,cs[off]? ≠ some (.tup ds))
  (hd:∀ u,(∃ c,cs[off]? = some c/\DRel G w c u)->DRel G w d' u):Inv G ⟨s.heap.set nm (cs.set off d'),s.live⟩ w:=by
 refine⟨h.com,by rw[h.names]; simp,h.nodup,λi b cs' hb hcs' => ?_,h.live,h.tok,h.pro,h.glob⟩;by_cases hi:i=nm
 .subst hi;have hlt:i<s.heap.length:=(List.getElem?_eq_some_iff.1 hc).1;rw[List.getElem?_set_self (by simpa using hlt)] at hcs';cases hcs';cases h.var i b cs hb hc with
  | map fl ms es clock h1 h2 h3 =>
   refine .map fl ms es clock ?_ h2 h3;subst h1;cases off with
   | zero=>exact absurd rfl (hne _)
   | succ n=>rfl
  | cells us ty h1 h2 h3 =>
  refine .cells us ty h1 (by rw[h2]; simp) λj c u hj hu=>?_
  by_cases hjo:j=off
  .subst hjo;have hlj:j<cs.length:=by have:=(List.getElem?_eq_some_iff.1 hj).1; simpa using this
   rw[List.getElem?_set_self (by simpa using hlj)] at hj;cases hj;obtain⟨k1,k2⟩:=h3 j cs[j] u (List.getElem?_eq_getElem hlj) hu;exact⟨k1,hd u ⟨cs[j],List.getElem?_eq_getElem hlj,k2⟩⟩
  .rw[List.getElem?_set_ne (λe=>hjo e.symm)] at hj;exact h3 j c u hj hu
 .rw[List.getElem?_set_ne (λe=>hi e.symm)] at hcs';exact h.var i b cs' hb hcs'
structure TI where
 d:TypeDesc
 size:Nat
 bytes:Nat
 zero:Value
 cmp:Bool
 bld:List (Program×Nat×Nat)
abbrev Tbl:=List (Nat×TI)
def Qagg(P:Program)(t:Nat):Bool := !P.stoodInHeld t && !P.eqGuardType P.depth t&&(P.fieldsOf t).toList.all (λf=>f.name != "_")
def TblOk(P:Program)(tb:Tbl):Prop:=∀ t ti,tb.lookup t=some ti->P.underlying t=some ti.d/\∃ i,P.info? t=some i/\i.size=ti.size/\i.bytes=ti.bytes/\i.zero=some ti.zero/\(ti.cmp=true->Qagg P t=true)/\∀ q ∈ ti.bld,q.2.2<ti.zero.cells.size/\liesAt q.1 q.1.depth t (ti.zero.cells.size / q.1.cellsOf t) q.2.2 q.2.1 1=true
def Qps:TypeDesc->Bool
 | .struct _ | .array _ _=>true
 | _=>false
def absC(u:Value):Option V :=
 match u with
 | .slice none 0 0=>some (.sl true [])
 | u=>if scal u then some (.v u) else none
def absL:List Value->Option (List V)
 | []=>some []
 | u::r=>match absC u,absL r with
  | some x,some y=>some (x::y)
  | _,_=>none
def absV(u:Value):Option V :=
 match u with
 | .agg cs=>(absL cs.toList).map .agg
 | u=>absC u
def Ql3:D->Option (List D)
 | .p (.agg cs)=>some (cs.map .p)
 | .agg cs=>some cs
 | .tup _ | .undef=>none
 | d=>some [d]
def unp:D->Option V
 | .p x=>some x
 | .own _ _ _ es=>some (.sl false es)
 | .sp _ _ _ _ _ | .agg _ | .ptr _ _ | .fn _ _ _ | .yld _ _ _ | .tup _ | .sf _ | .ef _ | .x _ _ _ | .mh _ | .undef=>none
def unps:List D->Option (List V)
 | []=>some []
 | d::r=>match unp d,unps r with
  | some x,some y=>some (x::y)
  | _,_=>none
def aggD(cs:List D):D:=match unps cs with | some vs =>.p (.agg vs) | none =>.agg cs
def evs(ev:Operand->Option D):List Operand->Option (List D)
 | []=>some []
 | x::r=>match ev x,evs ev r with
  | some d,some l=>some (d::l)
  | _,_=>none
def evps(ev:Operand->Option D):List (Nat×Operand)->Option (List (Nat×D))
 | []=>some []
 | (i,x)::r=>match ev x,evps ev r with
  | some d,some l=>some ((i,d)::l)
  | _,_=>none
theorem DRel.vOne{G:Gh}{w:World}{d:D}{u:Value}(h:DRel G w d u)(h1:∀ cs,d ≠ .agg cs)(h2:∀ cs,d ≠ .tup cs)(h3:d ≠ .undef)(h4:∀ cs,d ≠ .p (.agg cs)):u.oneCell' = true:=by
 cases h with
 | p x u h =>
  cases h with
  | v u h=>exact Qaah h
  | agg cs us=>exact absurd rfl (h4 cs)
  | sl=>rfl
  | ep=>rfl
  | opt b cs u h1 h2 =>
   cases b with
   | false=>rw[h1 rfl]; rfl
   | true=>have:=h2 rfl; cases this; rfl
 | ptr=>rfl
 | own _ _ _ _ _ _ h=>cases h; rfl
 | fn=>rfl
 | yld=>rfl
 | sp P u b nm off k e n v _ _ _ _ h1 h2 =>
  cases b with
  | false=>rw[h1 rfl]; rfl
  | true=>rw[h2 rfl]; rfl
 | agg cs=>exact absurd rfl (h1 cs)
 | tup cs=>exact absurd rfl (h2 cs)
 | sf=>rfl
 | ef=>rfl
 | x _ _ _ _ _ _ _ _ h=>exact h
 | mh=>rfl
 | undef=>exact absurd rfl h3
def CellsRel(G:Gh)(w:World)(ds:List D)(us:Array Value):Prop:=us.size=ds.length/\∀ (j:Nat) c u,ds[j]? = some c->us[j]? = some u->u.oneCell' = true/\DRel G w c u
theorem Q5g(u:Value)(h:u.oneCell' = true):u.cells = #[u]:=by
 cases u<;>first | rfl | (simp[Value.oneCell'] at h)
theorem CellsRel.single{G:Gh}{w:World}{d:D}{u:Value}(h:DRel G w d u)(h1:u.oneCell' = true):CellsRel G w [d] u.cells:=by
 rw[Q5g u h1];refine⟨rfl,λj c x hc hx=>?_⟩;cases j with
 | zero=>simp at hc hx; subst hc hx; exact⟨h1,h⟩
 | succ j=>simp at hc
theorem Qdz{G:Gh}{w:World}{d:D}{u:Value}{ds:List D}(h:DRel G w d u)(hd:Ql3 d=some ds):CellsRel G w ds u.cells:=by
 unfold Ql3 at hd;split at hd
 .cases h with
  | p x u h =>
   cases h with
   | agg cs us h1 h2 h3 =>
    cases hd;refine⟨by simp[Value.cells,h1],λj c u hc hu=>?_⟩;rw[List.getElem?_map] at hc;obtain⟨x,hx,rfl⟩:=Option.map_eq_some_iff.1 hc;exact⟨h2 j x u hx hu,.p x u (h3 j x u hx hu)⟩
 .cases hd;cases h with
  | agg cs us h1 h2 h3=>exact⟨h1.symm,λj c u hc hu=>⟨h2 j c u hc hu,h3 j c u hc hu⟩⟩
 .cases hd
 .cases hd
 .rename_i h1 h2 h3 h4;cases hd;exact .single h (h.vOne h2 h3 h4 h1)
theorem Qfe{G:Gh}{w:World}{d:D}{u:Value}{x:V}(h:DRel G w d u)(hd:unp d=some x):VRel G.com w x u:=by
 cases h<;>simp[unp] at hd
 .subst hd; assumption
 .subst hd; assumption
theorem Qhm{G:Gh}{w:World}:∀ (ds:List D) (xs:List V),unps ds=some xs->xs.length=ds.length/\∀ (j:Nat) x,xs[j]? = some x->∃ d,ds[j]? = some d/\unp d=some x
 | [],xs,h=>by simp[unps] at h; subst h; exact⟨rfl,λj x hx=>by simp at hx⟩
 | d::r,xs,h=>by
  unfold unps at h;split at h
  .rename_i x y hx hy;cases h;obtain⟨h1,h2⟩:=Qhm (G:=G) (w:=w) r y hy;refine⟨by simp[h1],λj z hz=>?_⟩;cases j with
   | zero=>simp at hz; subst hz; exact⟨d,rfl,hx⟩
   | succ j=>exact h2 j z hz
  .cases h
theorem CellsRel.agg{G:Gh}{w:World}{ds:List D}{us:Array Value}(h:CellsRel G w ds us):DRel G w (aggD ds) (.agg us):=by
 unfold aggD;split
 .rename_i vs hv;obtain⟨h1,h2⟩:=Qhm (G:=G) (w:=w) ds vs hv;refine .p _ _ (.agg _ _ (by rw[h1,h.1]) (λj c u hc hu=>?_) (λj c u hc hu=>?_))
  .obtain⟨d,hd,_⟩:=h2 j c hc; exact(h.2 j d u hd hu).1
  .obtain⟨d,hd,hx⟩:=h2 j c hc; exact Qfe (h.2 j d u hd hu).2 hx
 .exact .agg _ _ h.1.symm (λj c u hc hu=>(h.2 j c u hc hu).1) (λj c u hc hu=>(h.2 j c u hc hu).2)
theorem Q2h{C:Nat->Nat->Prop}{w:World}{u:Value}{x:V}(h:absC u=some x):VRel C w x u/\u.oneCell' = true:=by
 unfold absC at h;split at h
 .cases h;exact⟨.sl true [] none 0 0 0 0 (λ_=>undef) (Nat.le_refl _) (by unfold maxLen; omega) (λ_=>rfl) (λe he=>by simp at he) (λ_=>rfl) (λi k e c he=>by simp at he) (λi k e c he=>by simp at he) (λ_ _ h=>by cases h),rfl⟩
 .split at h
  .cases h; rename_i h; exact⟨.v _ h,Qaah h⟩
  .cases h
theorem Qaaj{C:Nat->Nat->Prop}{w:World}:∀ (us:List Value) (xs:List V),absL us=some xs->xs.length=us.length/\∀ (j:Nat) x u,xs[j]? = some x->us[j]? = some u->VRel C w x u/\u.oneCell' = true
 | [],xs,h=>by simp[absL] at h; subst h; exact⟨rfl,λj x u hx=>by simp at hx⟩
 | u::r,xs,h=>by
  unfold absL at h;split at h
  .rename_i x y hx hy;cases h;obtain⟨h1,h2⟩:=Qaaj (C:=C) (w:=w) r y hy;refine⟨by simp[h1],λj z v hz hv=>?_⟩;cases j with
   | zero=>simp at hz hv; subst hz hv; exact Q2h hx
   | succ j=>exact h2 j z v hz hv
  .cases h
theorem Ql4{C:Nat->Nat->Prop}{w:World}{u:Value}{x:V}(h:absV u=some x):VRel C w x u:=by
 unfold absV at h;split at h
 .rename_i cs;cases hl:absL cs.toList with
  | none=>simp[hl] at h
  | some xs =>
   simp[hl] at h;subst h;obtain⟨h1,h2⟩:=Qaaj (C:=C) (w:=w) cs.toList xs hl;exact .agg xs cs (by simpa using h1) (λj c u hc hu=>(h2 j c u hc (by simpa using hu)).2) (λj c u hc hu=>(h2 j c u hc (by simpa using hu)).1)
 .exact(Q2h h).1
theorem Qgi{ev:Operand->Option D}{G:Gh}{w:World}{a:Act}(hev:∀ x d,ev x=some d->DRel G w d (a.eval x)):∀ (l:List Operand) (ds:List D),evs ev l=some ds->ds.length=l.length /\
  ∀ (j:Nat) d u,ds[j]? = some d->(l.map a.eval)[j]? = some u->DRel G w d u
 | [],ds,h=>by simp[evs] at h; subst h; exact⟨rfl,λj d u hd=>by simp at hd⟩
 | x::r,ds,h=>by
  unfold evs at h;split at h
  .rename_i d l hd hl;cases h;obtain⟨h1,h2⟩:=Qgi hev r l hl;refine⟨by simp[h1],λj z u hz hu=>?_⟩;cases j with
   | zero=>simp at hz hu; subst hz hu; exact hev x d hd
   | succ j=>exact h2 j z u hz (by simpa using hu)
  .cases h
def Out(_P:Program)(G:Gh)(w:World)(r:Result Value)(K:D->S->Prop):Prop :=
 ∃ u w' G' d s', r = .ok u w' /\ Stp G w G' w' /\ Inv G' s' w' /\ DRel G' w' d u/\K d s'
theorem Out.pure{P:Program}{G:Gh}{w:World}{s:S}(hI:Inv G s w){r:Result Value}{u:Value}{K:D->S->Prop}(d:D)(hr:r = .ok u w)(hd:DRel G w d u)(hK:K d s):Out P G w r K :=
 ⟨u,w,G,d,s,hr,.refl G w,hI,hd,hK⟩
section
variable {P:Program} {tb:Tbl}
theorem TblOk.und(hT:TblOk P tb){t:Nat}{ti:TI}(h:tb.lookup t=some ti):P.underlying t=some ti.d:=(hT t ti h).1
theorem TblOk.sz(hT:TblOk P tb){t:Nat}{ti:TI}(h:tb.lookup t=some ti)(w:World):(sizeOf t).run P w = .ok ti.size w:=by
 obtain⟨_,i,h1,h2,_⟩:=hT t ti h;simp[sizeOf,typeInfo,h1,h2]
theorem TblOk.zr(hT:TblOk P tb){t:Nat}{ti:TI}(h:tb.lookup t=some ti)(w:World):(zeroValue t).run P w = .ok ti.zero w:=by
 obtain⟨_,i,h1,_,_,h2,-⟩:=hT t ti h;simp[zeroValue,typeInfo,h1,h2]
theorem TblOk.agg(hT:TblOk P tb){t:Nat}{ti:TI}(h:tb.lookup t=some ti)(w:World):(isAgg t).run P w = .ok (Qps ti.d) w:=by
 have:=run_underlying (hT.und h) w;unfold isAgg;simp only[Sem.run_bind,this,Result.andThen_ok];cases ti.d<;>rfl
theorem Qabz(w:World)(t:TypeId)(v:Value):(newVar t v).run P w = .ok ⟨w.heap.size,0,none⟩ (w.alloc (.cells v.cells t)):=rfl
def spAt(nm:Nat):List (Program×Nat×Nat)->List D->List D
 | [],ds=>ds
 | (Q,u,o)::r,ds=>spAt nm r (match ds[o]? with | some (.p (.v (.pointer none)))=>ds.set o (.sp Q u false nm o) | _=>ds)
theorem Q2i{G:Gh}{w:World}{live:List Nat}{hp:List (List D)}{k e n:Nat}(hk:G.name[hp.length]? = some k)(hs:w.shape? k=some (e,n)):∀ (l:List (Program×Nat×Nat)) (ds:List D),(∀ q ∈ l,q.2.2<n/\liesAt q.1 q.1.depth e (n / q.1.cellsOf e) q.2.2 q.2.1 1=true) ->
  Inv G ⟨hp++[ds],live⟩ w->Inv G ⟨hp++[spAt hp.length l ds],live⟩ w
 | [],ds,_,h=>h
 | (Q,u,o)::r,ds,hq,h=>by
  unfold spAt;refine Q2i hk hs r _ (λq hm=>hq q (List.mem_cons_of_mem _ hm)) ?_;split
  .rename_i ho;obtain⟨q1,q2⟩:=hq (Q,u,o) (by simp);have:=h.setCell (nm:=hp.length) (off:=o) (cs:=ds) (d' :=.sp Q u false hp.length o) (by simp) (λes he=>by rw[ho] at he; cases he) (λv ⟨c,hc,hr⟩=>by
    rw[ho] at hc;cases hc;refine .sp Q u false _ o k e n v hk hs q1 q2 (λ_=>?_) (λh=>by cases h);cases hr with | p _ _ hr=>cases hr; rfl)
   simpa using this
  .exact h
def Qain(tb:Tbl)(e n:Nat):List (Program×Nat×Nat) :=
 match tb.lookup e with
 | some ti=>match ti.bld with
  | []=>[]
  | q::r=>if n=ti.zero.cells.size then q::r else []
 | none=>[]
def aBox(tb:Tbl)(e:Nat)(d:D)(s:S)(K:D->S->Prop):Prop :=
 match Ql3 d with
 | some ds=>K (.ptr s.heap.length 0) { s with heap:=s.heap++[spAt s.heap.length (Qain tb e ds.length) ds] }
 | none=>False
theorem Qab0(hT:TblOk P tb){G:Gh}{w:World}{s:S}(hI:Inv G s w){K:D->S->Prop}(e:TypeId){d:D}{u:Value}(hd:DRel G w d u)(h:aBox tb e d s K) :
  Out P G w ((Instr.box e u).run P w) K:=by
 unfold aBox at h;split at h
 .rename_i ds hds;have hc:=Qdz hd hds;obtain⟨h1,h2⟩:=Q1k hI ds u.cells e hc.1 hc.2;have hnm:(G.name++[w.heap.size])[s.heap.length]? = some w.heap.size:=by rw[<-hI.names,List.getElem?_concat_length]
  have hsh:(w.alloc (.cells u.cells e)).shape? w.heap.size=some (e,u.cells.size):=Ql2 (World.alloc_heap_new w _);have h3:=Q2i (G:={ G with name:=G.name++[w.heap.size] }) (hp:=s.heap) (live:=s.live) hnm hsh (Qain tb e ds.length) ds (λq hq=>by
   unfold Qain at hq;split at hq
   .rename_i ti hti;split at hq
    .cases hq
    .rename_i q0 r hb0;split at hq
     .rename_i hn;obtain⟨-,i,-,-,-,-,-,hb⟩:=hT e ti hti;rw[hc.1,hn];exact hb q (by rw[hb0]; exact hq)
     .cases hq
   .cases hq) h2
  exact⟨_,_,_,_,_,rfl,h1,h3,.ptr _ _ _ hnm,h⟩
 .exact h.elim
def Qxf(tb:Tbl)(e:TypeId)(s:S)(K:D->S->Prop):Prop :=
 match tb.lookup e with
 | some ti=>match absV ti.zero with
  | some x=>match Ql3 (.p x) with
   | some ds=>K (.ptr s.heap.length 0) { s with heap:=s.heap++[spAt s.heap.length ti.bld ds] }
   | none=>False
  | none=>False
 | none=>False
theorem Q5h(hT:TblOk P tb){G:Gh}{w:World}{s:S}(hI:Inv G s w){K:D->S->Prop}(e:TypeId)(h:Qxf tb e s K) :
  Out P G w ((Instr.alloc e true (.tuple #[])).run P w) K:=by
 unfold Qxf at h;split at h
 .rename_i ti hti;split at h
  .rename_i x hx;split at h
   .rename_i ds hds;have hc:=Qdz (.p x _ (Ql4 (C:=G.com) (w:=w) hx)) hds;obtain⟨h1,h2⟩:=Q1k hI ds ti.zero.cells e hc.1 hc.2;have hnm:(G.name++[w.heap.size])[s.heap.length]? = some w.heap.size:=by rw[<-hI.names,List.getElem?_concat_length]
    have hsh:(w.alloc (.cells ti.zero.cells e)).shape? w.heap.size=some (e,ti.zero.cells.size):=Ql2 (World.alloc_heap_new w _);obtain⟨-,i,-,-,-,-,-,hb⟩:=hT e ti hti;have h3:=Q2i (G:={ G with name:=G.name++[w.heap.size] }) (hp:=s.heap) (live:=s.live) hnm hsh ti.bld ds hb h2;refine⟨_,_,_,_,_,?_,h1,h3,.ptr _ _ _ hnm,h⟩;simp[Instr.alloc,hT.zr hti,Instr.box,Qabz]
   .exact h.elim
  .exact h.elim
 .exact h.elim
def Qxg(ti:TI)(cs:List V)(K:V->Prop):Prop :=
 match Qps ti.d with
 | true=>if ti.size<=cs.length then K (.agg (cs.take ti.size)) else False
 | false=>match cs with
  | c::_=>K c
  | []=>False
def Qxh(ti:TI)(cs:List D)(K:D->Prop):Prop :=
 match Qaby cs with
 | false=>False
 | true=>match Qps ti.d with
  | true=>if ti.size<=cs.length then K (aggD (cs.take ti.size)) else False
  | false=>match cs with
   | c::_=>K c
   | []=>False
theorem Qrj(b o j:Nat):(⟨b,o,none⟩:Addr).add j=⟨b,o+j,none⟩:=by
 unfold Addr.add; split
 .subst_vars; rfl
 .rfl
theorem Qm4(hT:TblOk P tb){t:Nat}{ti:TI}(h:tb.lookup t=some ti)(w:World)(b off:Nat)(us:List Value)(hc:∀ (j:Nat) u,us[j]? = some u->w.cell? ⟨b,off+j,none⟩=some u) :
  (Qps ti.d=true->ti.size<=us.length->(Instr.loadAt t (.pointer (some ⟨b,off,none⟩))).run P w = .ok (.agg (us.take ti.size).toArray) w) /\
  (Qps ti.d=false->∀ u,us[0]? = some u->(Instr.loadAt t (.pointer (some ⟨b,off,none⟩))).run P w = .ok u w):=by
 constructor
 .intro ha hl;have:=run_loadCells_list (P:=P) w ⟨b,off,none⟩ (us.take ti.size) (λj v hv=>by
   rw[Qrj];rw[List.getElem?_take] at hv;split at hv
   .exact hc j v hv
   .cases hv)
  rw[List.length_take,Nat.min_eq_left hl] at this;simp[Instr.loadAt,Instr.sureAddr,loadVar,hT.agg h,ha,hT.sz h,this]
 .intro ha u hu;have:=hc 0 u hu;rw[Nat.add_zero] at this;simp[Instr.loadAt,Instr.sureAddr,loadVar,hT.agg h,ha,this]
theorem Q5i(hT:TblOk P tb){G:Gh}{w:World}{s:S}(hI:Inv G s w){K:D->S->Prop}{t:Nat}{ti:TI}(ht:tb.lookup t=some ti){cs:List V}{u:Value}(hd:VRel G.com w (.ep cs) u)
  (h:Qxg ti cs λv=>K (.p v) s):Out P G w ((Instr.loadAt t u).run P w) K:=by
 cases hd with
 | ep cs b off us h1 h2 =>
  have hc:∀ (j:Nat) u,((List.range cs.length).map us)[j]? = some u->w.cell? ⟨b,off+j,none⟩=some u:=λj u hu=>by
   rw[List.getElem?_map] at hu;cases hr:(List.range cs.length)[j]? with
   | none=>simp[hr] at hu
   | some i =>
    simp[hr] at hu;obtain⟨hj,rfl⟩:=List.getElem?_eq_some_iff.1 hr;simp at hu hj;subst hu;exact(h1 j cs[j] (List.getElem?_eq_getElem hj)).2.1
  obtain⟨r1,r2⟩:=Qm4 hT ht w b off _ hc;unfold Qxg at h;split at h
  .rename_i ha;split at h
   .rename_i hl;refine .pure hI _ (r1 ha (by simpa using hl)) ?_ h;refine .p _ _ (.agg _ _ (by simp) (λj c u hc' hu=>?_) (λj c u hc' hu=>?_))
    all_goals
     rw[List.getElem?_take] at hc';split at hc'
     .have e:u=us j:=by
       have hj:=(List.getElem?_eq_some_iff.1 hc').1;simp[*] at hu;exact hu.symm
      subst e
      first
       | exact(h1 j c hc').2.2
       | exact h2 j c hc'
     .cases hc'
   .exact h.elim
  .rename_i ha;split at h
   .rename_i c r;refine .pure hI _ (r2 ha (us 0) ?_) (.p _ _ (h2 0 c rfl)) h;rw[List.getElem?_map,List.getElem?_range (by simp)]; rfl
   .exact h.elim
theorem Q1l(hT:TblOk P tb){G:Gh}{w:World}{s:S}(hI:Inv G s w){K:D->Prop}{t:Nat}{ti:TI}(ht:tb.lookup t=some ti){nm off:Nat}{u:Value}(hd:DRel G w (.ptr nm off) u)
  {ds:List D} (hs:s.heap[nm]? = some ds) (h:Qxh ti (ds.drop off) K):∃ v d,(Instr.loadAt t u).run P w = .ok v w/\DRel G w d v/\K d:=by
 cases hd with
 | ptr nm off b hb =>
  unfold Qxh at h;split at h
  .exact h.elim
  rename_i hnm;cases hI.var nm b ds hb hs with
  | map fl ms es clock g1 g2 g3 =>
   subst g1;cases off with
   | zero=>cases hnm
   | succ n =>
    have e:([.tup [.p (.sl fl ms)]]:List D).drop (n+1)=[]:=by simp
    rw[e] at h;split at h
    .rename_i ha;split at h
     .rename_i hl;obtain⟨r1,-⟩:=Qm4 hT ht w b (n+1) [] (λj u hu=>by simp at hu);have hz:ti.size=0:=by simpa using hl
      refine⟨_,_,r1 ha (by rw[hz]; exact Nat.le_refl _),?_,h⟩;refine CellsRel.agg ⟨by simp[hz],λj c u hc' hu=>?_⟩;simp[hz] at hc'
     .exact h.elim
    .exact h.elim
  | cells us ty h1 h2 h3 =>
  have hc:∀ (j:Nat) u,(us.toList.drop off)[j]? = some u->w.cell? ⟨b,off+j,none⟩=some u:=λj u hu=>by
   rw[cell_of_row w b _ us ty (0,0) h1];rw[List.getElem?_drop] at hu;simpa using hu
  obtain⟨r1,r2⟩:=Qm4 hT ht w b off _ hc;split at h
  .rename_i ha;split at h
   .rename_i hl;refine⟨_,_,r1 ha (by simp at hl ⊢; omega),?_,h⟩;refine CellsRel.agg ⟨by simp[h2],λj c u hc' hu=>?_⟩;simp only[List.getElem?_take,List.getElem?_drop,List.getElem?_toArray] at hc' hu;split at hc'
    .rename_i hj;rw[if_pos hj] at hu;exact h3 _ c u hc' (by simpa using hu)
    .cases hc'
   .exact h.elim
  .rename_i ha;split at h
   .rename_i c r hr;have hc0:ds[off]? = some c:=by
     have:(ds.drop off)[0]? = some c:=by rw[hr]; rfl
     rw[List.getElem?_drop] at this; simpa using this
    have hlt:off<us.size:=by rw[h2]; exact(List.getElem?_eq_some_iff.1 hc0).1
    refine⟨_,_,r2 ha us[off] ?_,(h3 off c _ hc0 (Array.getElem?_eq_getElem hlt)).2,h⟩;rw[List.getElem?_drop]; simp[hlt]
   .exact h.elim
theorem Q5j(hT:TblOk P tb){G:Gh}{w:World}{s:S}(hI:Inv G s w){K:D->S->Prop}{t:Nat}{ti:TI}(ht:tb.lookup t=some ti){nm off:Nat}{u:Value}(hd:DRel G w (.ptr nm off) u)
  {ds:List D} (hs:s.heap[nm]? = some ds) (h:Qxh ti (ds.drop off) λv=>K v s):Out P G w ((Instr.loadAt t u).run P w) K:=by
 obtain⟨v,d,h1,h2,h3⟩:=Q1l hT hI ht hd hs h;exact .pure hI d h1 h2 h3
end
section
variable {P:Program} {tb:Tbl}
def Qagh:D->D->D
 | .sp P u _ nm o,.p (.v (.pointer none)) =>.sp P u false nm o
 | _,y=>y
def Qkt:List D->List D->List D
 | d::r,y::q=>Qagh d y::Qkt r q
 | _,q=>q
theorem Q1m:∀ ds xs:List D,(Qkt ds xs).length=xs.length
 | [],_=>by simp[Qkt]
 | _::_,[]=>by simp[Qkt]
 | _::r,_::q=>by simp[Qkt,Q1m r q]
theorem Q1n:∀ (ds xs:List D) (j:Nat) c,(Qkt ds xs)[j]? = some c->∃ x,xs[j]? = some x/\(c=x\/∃ d,ds[j]? = some d/\c=Qagh d x)
 | [],xs,j,c,h=>⟨c,by simpa [Qkt] using h,.inl rfl⟩
 | _::_,[],j,c,h=>by simp[Qkt] at h
 | d::r,y::q,0,c,h=>by
  simp only[Qkt,List.getElem?_cons_zero,Option.some.injEq] at h;exact⟨y,rfl,.inr ⟨d,rfl,h.symm⟩⟩
 | d::r,y::q,j+1,c,h=>by
  simp only[Qkt,List.getElem?_cons_succ] at h ⊢;exact Q1n r q j c h
theorem Qadj{G:Gh}{w:World}{d x:D}{u0 u:Value}(hd:DRel G w d u0)(hx:DRel G w x u):DRel G w (Qagh d x) u:=by
 unfold Qagh;split
 .cases hd with
  | sp _ _ _ _ _ k e n _ h1 h2 h3 h4 h5 h6 =>
   cases hx with
   | p _ _ hx=>cases hx; exact .sp _ _ _ _ _ k e n _ h1 h2 h3 h4 (λ_=>rfl) (λh=>by cases h)
 .exact hx
def Qvh(tb:Tbl)(t:Nat)(x y:D)(s:S)(K:D->S->Prop):Prop :=
 match tb.lookup t,x,Ql3 y with
 | some ti,.ptr nm off,some cs=>match s.heap[nm]? with
  | some ds=>match Qaby ds with
   | true=>if cs.length=ti.size/\off+cs.length<=ds.length then K .undef { s with heap:=s.heap.set nm (Qkt ds (ds.take off++cs++ds.drop (off+cs.length))) } else False
   | false=>False
  | none=>False
 | _,_,_=>False
theorem Q5k(hT:TblOk P tb){G:Gh}{w:World}{s:S}(hI:Inv G s w){K:D->S->Prop}{t:Nat}{x y:D}{u v:Value}(hx:DRel G w x u)(hy:DRel G w y v)(h:Qvh tb t x y s K) :
  ∃ w' G' s', (Instr.storeAt t u v).run P w = .ok () w' /\ Stp G w G' w' /\ Inv G' s' w' /\ K .undef s' := by
 unfold Qvh at h;split at h
 .rename_i ti nm off cs ht hc;split at h
  .rename_i ds hs;split at h
   rotate_left
   .exact h.elim
   rename_i hnm;split at h
   .rename_i hl;cases hx with
    | ptr nm off b hb =>
     obtain⟨us,ty,h1,h2,h3⟩:=(hI.var nm b ds hb hs).row hnm;have hr:=Qdz hy hc;have hlen:v.cells.toList.length=cs.length:=by simpa using hr.1
     have hst:=run_storeCells_at P b off ty v.cells.toList 0 us w h1 (by rw[hlen,h2]; omega) (λx hx=>by
      obtain⟨j,hj⟩:=List.getElem?_of_mem hx;have hj2:j<cs.length:=by rw[<-hlen]; exact(List.getElem?_eq_some_iff.1 hj).1
      exact(hr.2 j cs[j] x (List.getElem?_eq_getElem hj2) (by simpa using hj)).1)
     simp only[Nat.add_zero] at hst;have hrun:(Instr.storeAt t (.pointer (some ⟨b,off,none⟩)) v).run P w = .ok () (w.setRow b (us.toList.take off++v.cells.toList++us.toList.drop (off+v.cells.toList.length)).toArray):=by
      have e:v.cells.size=ti.size:=by rw[hr.1]; exact hl.1
      simp only[Instr.storeAt,Instr.sureAddr,storeVar,Sem.run_bind,Sem.run_pure,Result.andThen_ok,hT.sz ht,e];simpa using hst
     have hX:∀ (j:Nat) c u,(ds.take off++cs++ds.drop (off+cs.length))[j]? = some c->(us.toList.take off++v.cells.toList++us.toList.drop (off+v.cells.toList.length)).toArray[j]? = some u->u.oneCell' = true/\DRel G w c u:=λj c u hc hu=>by
       have hu' : (us.toList.take off++v.cells.toList++us.toList.drop (off+v.cells.toList.length))[j]? = some u:=by simpa using hu
       rw[hlen] at hu';have ht1:(us.toList.take off).length=off:=by simp; omega
       have ht2:(ds.take off).length=off:=by simp; omega
       rw[List.append_assoc] at hu' hc;by_cases hj:j<off
       .rw[List.getElem?_append_left (by omega),List.getElem?_take,if_pos hj] at hu' hc;exact h3 j c u hc (by simpa using hu')
       .rw[List.getElem?_append_right (by omega),ht1] at hu';rw[List.getElem?_append_right (by omega),ht2] at hc;by_cases hj2:j-off<cs.length
        .rw[List.getElem?_append_left (by omega)] at hu' hc;exact hr.2 _ c u hc (by simpa using hu')
        .rw[List.getElem?_append_right (by omega),hlen,List.getElem?_drop] at hu';rw[List.getElem?_append_right (by omega),List.getElem?_drop] at hc;exact h3 _ c u hc (by simpa using hu')
     obtain⟨k1,k2⟩:=Q5f hI nm b hb us ty h1 (Qkt ds (ds.take off++cs++ds.drop (off+cs.length))) (us.toList.take off++v.cells.toList++us.toList.drop (off+v.cells.toList.length)).toArray
      (by rw[Q1m]; simp only[List.size_toArray,List.length_append,List.length_take,List.length_drop,hlen,Array.length_toList]; rw[h2])
      (by simp only[List.size_toArray,List.length_append,List.length_take,List.length_drop,hlen,Array.length_toList]; omega)
      (λj c u hc hu=>by
       obtain⟨x,hx,hcx⟩:=Q1n _ _ j c hc;obtain⟨p1,p2⟩:=hX j x u hx hu;refine⟨p1,?_⟩;rcases hcx with rfl | ⟨d,hd,rfl⟩
       .exact p2
       .have hju:j<us.size:=by rw[h2]; exact(List.getElem?_eq_some_iff.1 hd).1
        exact Qadj (h3 j d us[j] hd (Array.getElem?_eq_getElem hju)).2 p2)
      (w.setRow b (us.toList.take off++v.cells.toList++us.toList.drop (off+v.cells.toList.length)).toArray) rfl rfl rfl (by simp[World.setRow]) (setRow_heap w b us _ ty _ h1) (λk hk=>setRow_other w b k _ hk)
     exact⟨_,G,_,hrun,k1,k2,h⟩
   .exact h.elim
  .exact h.elim
 .exact h.elim
theorem VRel.epDrop{C:Nat->Nat->Prop}{w:World}{cs:List V}{b off:Nat}(h:VRel C w (.ep cs) (.pointer (some ⟨b,off,none⟩)))(n:Nat):VRel C w (.ep (cs.drop n)) (.pointer (some ⟨b,off+n,none⟩)):=by
 cases h with
 | ep cs b off us h1 h2 =>
  refine .ep _ b (off+n) (λk=>us (n+k)) (λk c hc=>?_) (λk c hc=>?_)
  .rw[List.getElem?_drop] at hc;have:=h1 _ c hc;rw[<-Nat.add_assoc] at this;exact this
  .rw[List.getElem?_drop] at hc;exact h2 _ c hc
theorem VRel.ep_ptr{C:Nat->Nat->Prop}{w:World}{cs:List V}{u:Value}(h:VRel C w (.ep cs) u):∃ b off,u = .pointer (some ⟨b,off,none⟩):=by
 cases h; exact⟨_,_,rfl⟩
def Q1o(x:D)(n:Nat)(s:S)(K:D->S->Prop):Prop :=
 match x with
 | .p (.ep cs)=>K (.p (.ep (cs.drop n))) s
 | .ptr nm off=>K (.ptr nm (off+n)) s
 | _=>False
theorem Qvi{G:Gh}{w:World}{s:S}{K:D->S->Prop}{x:D}{n:Nat}{u:Value}(hx:DRel G w x u)(h:Q1o x n s K):∃ a d,u = .pointer (some a)/\DRel G w d (.pointer (some (a.add n)))/\K d s:=by
 unfold Q1o at h;split at h
 .cases hx with
  | p x u hx =>
   obtain⟨b,off,rfl⟩:=hx.ep_ptr;refine⟨_,_,rfl,.p _ _ ?_,h⟩;rw[Qrj]; exact hx.epDrop n
 .cases hx with
  | ptr nm off b hb=>exact⟨_,_,rfl,by rw[Qrj]; exact .ptr _ _ b hb,h⟩
 .exact h.elim
def Qm5(tb:Tbl)(t:Nat)(x:D)(f:Nat)(s:S)(K:D->S->Prop):Prop :=
 match tb.lookup t with
 | some ti=>match ti.d with
  | .struct fields=>match fields[f]? with
   | some fd=>match tb.lookup fd.type with
    | some tf=>if tf.size=0 then False else Q1o x fd.offset s K
    | none=>False
   | none=>False
  | _=>False
 | none=>False
theorem Qv4(hT:TblOk P tb){G:Gh}{w:World}{s:S}(hI:Inv G s w){K:D->S->Prop}{t f:Nat}{x:D}{u:Value}(hx:DRel G w x u)(h:Qm5 tb t x f s K) :
  Out P G w ((Instr.fieldAt t u f).run P w) K:=by
 unfold Qm5 at h;split at h
 .rename_i ti ht;split at h
  .rename_i fields hd;split at h
   .rename_i fd hf;split at h
    .rename_i tf htf;split at h
     .exact h.elim
     .rename_i hz;obtain⟨a,d,rfl,hd2,hK⟩:=Qvi hx h;refine .pure hI d ?_ hd2 hK;have hu:=hT.und ht;rw[hd] at hu;simp[Instr.fieldAt,run_underlying hu,hf,Instr.sureAddr,fieldPlace,hT.sz htf,hz]
    .exact h.elim
   .exact h.elim
  .exact h.elim
 .exact h.elim
def Q5l(ti:TI)(x:D)(off:Nat)(s:S)(K:D->S->Prop):Prop :=
 match Ql3 x with
 | some cs=>match Qps ti.d with
  | true=>if off+ti.size<=cs.length then K (aggD ((cs.drop off).take ti.size)) s else False
  | false=>match cs[off]? with
   | some c=>K c s
   | none=>False
 | none=>False
theorem Qxi(hT:TblOk P tb){G:Gh}{w:World}{s:S}(hI:Inv G s w){K:D->S->Prop}{t off:Nat}{ti:TI}(ht:tb.lookup t=some ti){x:D}{us:Array Value}(hx:DRel G w x (.agg us))(h:Q5l ti x off s K) :
  Out P G w ((part t us off).run P w) K:=by
 unfold Q5l at h;split at h
 .rename_i cs hcs;have hc:=Qdz hx hcs;split at h
  .rename_i ha;split at h
   .rename_i hl;refine .pure hI _ ?_ ?_ h (u :=.agg (us.extract off (off+ti.size)))
    .simp[part,hT.agg ht,ha,hT.sz ht]
    .have h1:us.size=cs.length:=hc.1;refine CellsRel.agg ⟨by simp[h1]; omega,λj c u hc' hu=>?_⟩;simp only[List.getElem?_take,List.getElem?_drop] at hc';rw[Array.getElem?_extract] at hu;split at hc'
     .split at hu
      .exact hc.2 _ c u hc' hu
      .cases hu
     .cases hc'
   .exact h.elim
  .rename_i ha;split at h
   .rename_i c hcc;have hlt:off<us.size:=by
     have h1:us.size=cs.length:=hc.1;rw[h1]; exact(List.getElem?_eq_some_iff.1 hcc).1
    refine .pure hI c ?_ (hc.2 off c us[off] hcc (Array.getElem?_eq_getElem hlt)).2 h;simp[part,hT.agg ht,ha,hlt]
   .exact h.elim
 .exact h.elim
def Qaak:D->Bool
 | .agg _ | .p (.agg _)=>true
 | _=>false
theorem Q1p{G:Gh}{w:World}{x:D}{u:Value}(hx:DRel G w x u)(h:Qaak x=true):∃ us,u = .agg us:=by
 unfold Qaak at h;split at h
 .cases hx; exact⟨_,rfl⟩
 .cases hx with
  | p x u hx=>cases hx; exact⟨_,rfl⟩
 .cases h
def Q5m(tb:Tbl)(t:Nat)(x:D)(f:Nat)(s:S)(K:D->S->Prop):Prop :=
 match tb.lookup t,Qaak x with
 | some ti,true=>match ti.d with
  | .struct fields=>match fields[f]? with
   | some fd=>match tb.lookup fd.type with
    | some tf=>Q5l tf x fd.offset s K
    | none=>False
   | none=>False
  | _=>False
 | _,_=>False
theorem Q5n(hT:TblOk P tb){G:Gh}{w:World}{s:S}(hI:Inv G s w){K:D->S->Prop}{t f:Nat}{x:D}{u:Value}(hx:DRel G w x u)(h:Q5m tb t x f s K) :
  Out P G w ((Instr.field t u f).run P w) K:=by
 unfold Q5m at h;split at h
 .rename_i ti ht ha;obtain⟨us,rfl⟩:=Q1p hx ha;split at h
  .rename_i fields hd;split at h
   .rename_i fd hf;split at h
    .rename_i tf htf;obtain⟨u,w', r⟩:=Qxi hT hI htf hx h;refine⟨u,w', ?_⟩;have hu:=hT.und ht;rw[hd] at hu;simpa [Instr.field,run_underlying hu,hf,asAgg] using r
    .exact h.elim
   .exact h.elim
  .exact h.elim
 .exact h.elim
def Qm6(tb:Tbl)(t:Nat)(x i:D)(s:S)(K:D->S->Prop):Prop :=
 match tb.lookup t,i with
 | some ti,.p (.v (.int _ n))=>match ti.d with
  | .slice e=>match tb.lookup e,x with
   | some te,.p (.sl _ es)=>∃ c,0<=n/\es[n.toNat]? = some c/\c.length=te.size/\0<te.size/\K (.p (.ep c)) s
   | some te,.own _ _ _ es=>∃ c,0<=n/\es[n.toNat]? = some c/\c.length=te.size/\0<te.size/\K (.p (.ep c)) s
   | some te,.sf ds=>∃ c,0<=n/\ds[n.toNat]? = some c/\te.size=1/\K (.ef c) s
   | _,_=>False
  | .array len e=>match tb.lookup e with
   | some te=>0<=n/\n<len/\Q1o x (n.toNat*te.size) s K
   | none=>False
  | _=>False
 | _,_=>False
theorem VRel.elem{C:Nat->Nat->Prop}{w:World}{full:Bool}{es:List (List V)}{u:Value}(h:VRel C w (.sl full es) u){i:Nat}{c:List V}(hi:es[i]? = some c)(hc:0<c.length) :
  ∃ a cap,u = .slice (some a) es.length cap/\VRel C w (.ep c) (.pointer (some (a.add (i*c.length)))):=by
 cases h with
 | sl full es a cap size b off us h1 h2 h3 h4 h5 h6 h7 h8 =>
  have hsz:c.length=size:=h4 c (List.mem_of_getElem? hi);obtain⟨rfl,_⟩:=h6 i 0 c c[0] hi (List.getElem?_eq_getElem hc);refine⟨_,cap,rfl,?_⟩;rw[Qrj,hsz];refine .ep c b (off+i*size) (λk=>us (i*size+k)) (λk x hk=>?_) (λk x hk=>h7 i k c x hi hk);exact(h6 i k c x hi hk).2
theorem VRel.isSlice{C:Nat->Nat->Prop}{w:World}{full:Bool}{es:List (List V)}{u:Value}(h:VRel C w (.sl full es) u):∃ a cap,u = .slice a es.length cap/\es.length<=cap/\cap<=maxLen/\(full=true->cap=es.length)/\(full=true->∀ ad,a=some ad->ad.block<w.heap.size):=by
 cases h with
 | sl full es a cap size b off us h1 h2 h3 h4 h5 h6 h7 h8=>exact⟨a,cap,rfl,h1,h2,h3,h8⟩
theorem Qvj(hT:TblOk P tb){G:Gh}{w:World}{s:S}(hI:Inv G s w){K:D->S->Prop}{t e:Nat}{ti te:TI}(ht:tb.lookup t=some ti)(hd:ti.d = .slice e)(he:tb.lookup e=some te)
  {full:Bool} {es:List (List V)} {u:Value} (hx:VRel G.com w (.sl full es) u) {k:IntKind} {n:Int} (h:∃ c,0<=n/\es[n.toNat]? = some c/\c.length=te.size/\0<te.size/\K (.p (.ep c)) s) :
  Out P G w ((Instr.indexAt t u (.int k n)).run P w) K:=by
 obtain⟨c,h0,hc,hl,hz,hK⟩:=h;obtain⟨a,cap,rfl,hr⟩:=hx.elem hc (by omega);have hu:=hT.und ht;rw[hd] at hu;have hlt:n<es.length:=by have:=(List.getElem?_eq_some_iff.1 hc).1; omega
 refine .pure hI _ ?_ (.p _ _ hr) hK;simp[Instr.indexAt,run_underlying hu,asIntOf,h0,hlt,hT.sz he,hl]
theorem Qv5(hT:TblOk P tb){G:Gh}{w:World}{s:S}(hI:Inv G s w){K:D->S->Prop}{t:Nat}{x i:D}{u v:Value}(hx:DRel G w x u)(hi:DRel G w i v)(h:Qm6 tb t x i s K) :
  Out P G w ((Instr.indexAt t u v).run P w) K:=by
 unfold Qm6 at h;split at h
 .rename_i ti k n ht;have hv:v = .int k n:=by
   cases hi with
   | p x u hi=>cases hi; rfl
  subst hv;split at h
  .rename_i e hd;split at h
   .rename_i te full es he;cases hx with
    | p x u hx=>exact Qvj hT hI ht hd he hx h
   .rename_i te t' e' sz es he;cases hx with
    | own t e sz es u T hx=>exact Qvj hT hI ht hd he hx h
   .rename_i te ds he;cases hx with
    | sf _ b us h1 h2 =>
     obtain⟨c,h0,hc,hl,hK⟩:=h;have hu:=hT.und ht;rw[hd] at hu;have hlt:n<ds.length:=by have:=(List.getElem?_eq_some_iff.1 hc).1; omega
     refine .pure hI _ ?_ (.ef c b n.toNat _ (h1 _ c hc).1 (h1 _ c hc).2.1 (h2 _ c hc)) hK;simp[Instr.indexAt,run_underlying hu,asIntOf,h0,hlt,hT.sz he,hl,Qrj]
   .exact h.elim
  .rename_i len e hd;split at h
   .rename_i te he;obtain⟨h0,h1,h⟩:=h;obtain⟨a,d,rfl,hd2,hK⟩:=Qvi hx h;have hu:=hT.und ht;rw[hd] at hu;refine .pure hI d ?_ hd2 hK;simp[Instr.indexAt,run_underlying hu,asIntOf,h0,h1,hT.sz he,Instr.sureAddr]
   .exact h.elim
  .exact h.elim
 .exact h.elim
def Q5o(tb:Tbl)(t:Nat)(x i:D)(s:S)(K:D->S->Prop):Prop :=
 match tb.lookup t,i with
 | some ti,.p (.v (.int _ n))=>match ti.d,x with
  | .string,.p (.v (.string z))=>∃ c,0<=n/\z.data.toList[n.toNat]? = some c/\K (.p (.v (.int .u8 c.toNat))) s
  | .array len e,x=>match tb.lookup e,Qaak x with
   | some te,true=>0<=n/\n<len/\Q5l te x (n.toNat*te.size) s K
   | _,_=>False
  | _,_=>False
 | _,_=>False
theorem Q5p(hT:TblOk P tb){G:Gh}{w:World}{s:S}(hI:Inv G s w){K:D->S->Prop}{t:Nat}{x i:D}{u v:Value}(hx:DRel G w x u)(hi:DRel G w i v)(h:Q5o tb t x i s K) :
  Out P G w ((Instr.index t u v).run P w) K:=by
 unfold Q5o at h;split at h
 .rename_i ti k n ht;have hv:v = .int k n:=by
   cases hi with
   | p x u hi=>cases hi; rfl
  subst hv;split at h
  .rename_i z hd;obtain⟨c,h0,hc,hK⟩:=h;have hu:=hT.und ht;rw[hd] at hu;have hz:u = .string z:=by
    cases hx with
    | p x u hx=>cases hx; rfl
   subst hz;refine .pure hI _ ?_ (.p _ _ (.v _ rfl)) hK;have hlt:n.toNat<z.size:=by have:=(List.getElem?_eq_some_iff.1 hc).1; simpa using this
   have hg:z[n.toNat]? = some c:=by
    rw[getElem?_pos z n.toNat hlt];have h2:=(List.getElem?_eq_some_iff.1 hc).2;rw[<-h2]; rfl
   simp[Instr.index,run_underlying hu,asIntOf,h0,hg]
  .rename_i len e x hd;split at h
   .rename_i te he ha;obtain⟨us,rfl⟩:=Q1p hx ha;obtain⟨h0,h1,h⟩:=h;obtain⟨u,w', r⟩:=Qxi hT hI he hx h;refine⟨u,w', ?_⟩;have hu:=hT.und ht;rw[hd] at hu;simpa [Instr.index,run_underlying hu,asIntOf,h0,h1,hT.sz he] using r
   .exact h.elim
  .exact h.elim
 .exact h.elim
end
def Qau(s:ByteArray):List UInt8:=s.data.toList
def Qd1(l:List UInt8):Value :=.string ⟨l.toArray⟩
def aBin(op:BinOp)(a b:Value)(K:Value->Prop):Prop :=
 match op,a,b with
 | .shl,.int k x,.int _ y=>0<=y/\K (.int k (k.wrap (x*2 ^ (min y.toNat k.bits))))
 | .shr,.int k x,.int _ y=>0<=y/\K (.int k (x.fdiv (2 ^ (min y.toNat k.bits))))
 | .add,.int k x,.int k' y=>if k=k' then K (.int k (k.wrap (x+y))) else False
 | .sub,.int k x,.int k' y=>if k=k' then K (.int k (k.wrap (x-y))) else False
 | .mul,.int k x,.int k' y=>if k=k' then K (.int k (k.wrap (x*y))) else False
 | .quo,.int k x,.int k' y=>if k=k' then y≠0/\K (.int k (k.wrap (x.tdiv y))) else False
 | .rem,.int k x,.int k' y=>if k=k' then y≠0/\K (.int k (x.tmod y)) else False
 | .and,.int k x,.int k' y=>if k=k' then K (.int k (bits .and k x y)) else False
 | .or,.int k x,.int k' y=>if k=k' then K (.int k (bits .or k x y)) else False
 | .xor,.int k x,.int k' y=>if k=k' then K (.int k (bits .xor k x y)) else False
 | .andNot,.int k x,.int k' y=>if k=k' then K (.int k (bits .andNot k x y)) else False
 | .eql,.int k x,.int k' y=>if k=k' then K (.bool (x==y)) else False
 | .neq,.int k x,.int k' y=>if k=k' then K (.bool (x != y)) else False
 | .lss,.int k x,.int k' y=>if k=k' then K (.bool (decide (x<y))) else False
 | .leq,.int k x,.int k' y=>if k=k' then K (.bool (decide (x<=y))) else False
 | .gtr,.int k x,.int k' y=>if k=k' then K (.bool (decide (x>y))) else False
 | .geq,.int k x,.int k' y=>if k=k' then K (.bool (decide (x >= y))) else False
 | .add,.string x,.string y=>((Qau x).length+(Qau y).length<=9223372036854775807)/\K (Qd1 (Qau x++Qau y))
 | .eql,.string x,.string y=>K (.bool (Qau x==Qau y))
 | .neq,.string x,.string y=>K (.bool (!(Qau x==Qau y)))
 | .lss,.string x,.string y=>K (.bool (Op.bytesLess (Qau x) (Qau y)))
 | .leq,.string x,.string y=>K (.bool (Op.bytesLess (Qau x) (Qau y)||(Qau x==Qau y)))
 | .gtr,.string x,.string y=>K (.bool (!(Op.bytesLess (Qau x) (Qau y)||(Qau x==Qau y))))
 | .geq,.string x,.string y=>K (.bool (!Op.bytesLess (Qau x) (Qau y)))
 | _,_,_=>False
section
variable {P:Program} {tb:Tbl}
theorem Qek(s:ByteArray):s.toList=Qau s:=Lib.toList_data s
theorem Q5q(x y:ByteArray):Value.string (x++y)=Qd1 (Qau x++Qau y):=by
 unfold Qd1 Qau;congr 1
theorem Qakp:IntKind.i64.max=9223372036854775807:=by decide +kernel
theorem Qab1{op:BinOp}{t:TypeId}{a b:Value}{K:Value->Prop}(w:World)(h:aBin op a b K):∃ u,(binOp op t a b).run P w = .ok u w/\K u/\scal u=true:=by
 unfold aBin at h;split at h
 case h_1=>exact⟨_,by simp[binOp,Op.shift,Int.not_lt.2 h.1],h.2,rfl⟩
 case h_2=>exact⟨_,by simp[binOp,Op.shift,Int.not_lt.2 h.1],h.2,rfl⟩
 case h_18 =>
  refine⟨_,?_,h.2,rfl⟩;rename_i x y;have h1:¬ (((x.size+y.size:Nat):Int)>IntKind.i64.max):=by
   have:=h.1;unfold Qau at this;rw[Qakp];simp at this ⊢;omega
  rw[<-Q5q];show(Op.stringOp .add x y).run P w=_;unfold Op.stringOp;rw[if_neg h1]; rfl
 case h_19=>exact⟨_,by simp[binOp,Op.stringOp,Qek],h,rfl⟩
 case h_20=>exact⟨_,by simp[binOp,Op.stringOp,Qek],h,rfl⟩
 case h_21=>exact⟨_,by simp[binOp,Op.stringOp,Qek],h,rfl⟩
 case h_22=>exact⟨_,by simp[binOp,Op.stringOp,Qek],h,rfl⟩
 case h_23=>exact⟨_,by simp[binOp,Op.stringOp,Qek],h,rfl⟩
 case h_24=>exact⟨_,by simp[binOp,Op.stringOp,Qek],h,rfl⟩
 case h_25=>exact h.elim
 case h_7 =>
  split at h
  .rename_i hk; subst hk; exact⟨_,by simp[binOp,Op.intDiv,h.1],h.2,rfl⟩
  .exact h.elim
 case h_6 =>
  split at h
  .rename_i hk; subst hk; exact⟨_,by simp[binOp,Op.intDiv,h.1],h.2,rfl⟩
  .exact h.elim
 all_goals
  split at h
  .rename_i hk; subst hk;exact⟨_,by simp[binOp,Op.intArith,Op.intCmp,intBits_and,intBits_or,intBits_xor,intBits_andNot],h,rfl⟩
  .exact h.elim
theorem Qhb(op:BinOp)(t:TypeId)(x y:Operand)(a b:Value)(ha:a ≠ .nilIface)(hb:∀ cs,a ≠ .agg cs)(w:World):(eqGuard op t x y a b).run P w = .ok () w:=by
 unfold eqGuard;cases a<;>first
  | exact absurd rfl ha
  | exact absurd rfl (hb _)
  | (cases op<;>rfl)
theorem Qaal(hT:TblOk P tb){t:Nat}{ti:TI}(ht:tb.lookup t=some ti)(hd:ti.d = .bool)(x y:Bool)(w:World) :
  (binOp .eql t (.bool x) (.bool y)).run P w = .ok (.bool (x==y)) w/\(binOp .neq t (.bool x) (.bool y)).run P w = .ok (.bool (x != y)) w:=by
 have hu:=hT.und ht;rw[hd] at hu;exact⟨run_eql_bool w t x y hu,by rw[run_neq_bool w t x y hu]; rfl⟩
def Qxj(tb:Tbl)(op:BinOp)(t:Nat)(x y:D)(s:S)(K:D->S->Prop):Prop :=
 match x,y with
 | .p (.v (.bool a)),.p (.v (.bool b))=>match tb.lookup t,op with
  | some ti,.eql=>match ti.d with | .bool=>K (.p (.v (.bool (a==b)))) s | _=>False
  | some ti,.neq=>match ti.d with | .bool=>K (.p (.v (.bool (a != b)))) s | _=>False
  | _,_=>False
 | .p (.v a),.p (.v b)=>aBin op a b λu=>K (.p (.v u)) s
 | _,_=>False
theorem Qab2{op:BinOp}{a b:Value}{K:Value->Prop}(h:aBin op a b K):a ≠ .nilIface/\∀ cs,a ≠ .agg cs:=by
 unfold aBin at h;split at h
 all_goals first
  | exact h.elim
  | exact⟨by simp,by simp⟩
theorem Q2j(hT:TblOk P tb){G:Gh}{w:World}{s:S}(hI:Inv G s w){K:D->S->Prop}{op:BinOp}{t:Nat}{x y:D}{u v:Value}(hx:DRel G w x u)(hy:DRel G w y v)(ox oy:Operand)(h:Qxj tb op t x y s K) :
  Out P G w ((do eqGuard op t ox oy u v; binOp op t u v:Sem Value).run P w) K:=by
 unfold Qxj at h;split at h
 .rename_i a b;have e1:u = .bool a:=by cases hx with | p x u hx=>cases hx; rfl
  have e2:v = .bool b:=by cases hy with | p x u hx=>cases hx; rfl
  subst e1; subst e2;split at h
  .rename_i ti ht;split at h
   .rename_i hd;refine .pure hI _ ?_ (.p _ _ (.v _ rfl)) h;rw[Sem.run_bind,Qhb _ _ _ _ _ _ (by simp) (by simp),Result.andThen_ok];exact(Qaal hT ht hd a b w).1
   .exact h.elim
  .rename_i ti ht;split at h
   .rename_i hd;refine .pure hI _ ?_ (.p _ _ (.v _ rfl)) h;rw[Sem.run_bind,Qhb _ _ _ _ _ _ (by simp) (by simp),Result.andThen_ok];exact(Qaal hT ht hd a b w).2
   .exact h.elim
  .exact h.elim
 .rename_i a b _;have e1:u=a:=by cases hx with | p x u hx=>cases hx; rfl
  have e2:v=b:=by cases hy with | p x u hx=>cases hx; rfl
  subst e1; subst e2;obtain⟨g1,g2⟩:=Qab2 h;obtain⟨r,hr,hK,hs⟩:=Qab1 (P:=P) (t:=t) w h;refine .pure hI _ ?_ (.p _ _ (.v _ hs)) hK;rw[Sem.run_bind,Qhb _ _ _ _ _ _ g1 g2,Result.andThen_ok];exact hr
 .exact h.elim
def Qku(d:TypeDesc)(a b:V):Option Bool :=
 match d,a,b with
 | .string,.v (.string x),.v (.string y)=>some (Qau x==Qau y)
 | .int _,.v (.int k x),.v (.int k' y)=>if k=k' then some (x==y) else none
 | .bool,.v (.bool x),.v (.bool y)=>some (x==y)
 | _,_,_=>none
def Qkx(tb:Tbl)(xs ys:List V):List Field->Option Bool
 | []=>some true
 | f::r=>match tb.lookup f.type,xs[f.offset]?,ys[f.offset]? with
  | some ti,some a,some b=>match Qku ti.d a b,Qkx tb xs ys r with
   | some p,some q=>some (p&&q)
   | _,_=>none
  | _,_,_=>none
def Qadk(tb:Tbl)(t:Nat):Bool :=
 match tb.lookup t with
 | some ti=>match ti.d with | .pointer _=>true | _=>false
 | none=>false
def eqK(op:BinOp)(b:Bool)(K:Bool->Prop):Prop :=
 match op with
 | .eql=>K b
 | .neq=>K (!b)
 | _=>False
theorem Q1q(hT:TblOk P tb){C:Nat->Nat->Prop}{w:World}{t:Nat}{ti:TI}(ht:tb.lookup t=some ti){a b:V}{r:Bool}(h:Qku ti.d a b=some r){u v:Value}(hu:VRel C w a u)(hv:VRel C w b v)(d:Nat) :
  Qps ti.d=false/\(Op.equalIn (d+1) t u v).run P w = .ok r w:=by
 have hun:=hT.und ht;unfold Qku at h;split at h
 .rename_i x y hd; cases hu; cases hv; cases h;rw[hd] at hun ⊢;exact⟨rfl,by rw[run_equalIn_string w d t _ _ hun,Qek,Qek]⟩
 .rename_i k0 k x k' y hd; cases hu; cases hv;split at h
  .rename_i hk; subst hk; cases h;rw[hd] at hun ⊢;exact⟨rfl,run_equalIn_int w d t _ _ _ _ hun⟩
  .cases h
 .rename_i x y hd; cases hu; cases hv; cases h;rw[hd] at hun ⊢;exact⟨rfl,run_equalIn_bool' w d t _ _ hun⟩
 .cases h
theorem Q2k(hT:TblOk P tb){t:Nat}{ti:TI}(ht:tb.lookup t=some ti)(hd:Qps ti.d=false)(w:World){us:Array Value}{off:Nat}{u:Value}(hu:us[off]? = some u):(part t us off).run P w = .ok u w:=by
 unfold part;simp only[Sem.run_bind,hT.agg ht,Result.andThen_ok,hd,Bool.false_eq_true,if_false,hu];rfl
theorem Qpt(hT:TblOk P tb){C:Nat->Nat->Prop}{w:World}{xs ys:List V}{us vs:Array Value}(hx:VRel C w (.agg xs) (.agg us))(hy:VRel C w (.agg ys) (.agg vs))(d:Nat) :
  ∀ (fs:List Field) (b:Bool),Qkx tb xs ys fs=some b->fs.all (λf=>f.name != "_")=true->(Op.eqFields (d+1) us vs fs).run P w = .ok b w
 | [],b,h,_=>by cases h; rfl
 | f::r,b,h,hn=>by
  unfold Qkx at h;simp only[List.all_cons,Bool.and_eq_true,bne_iff_ne,ne_eq] at hn;split at h
  ·rename_i ti a c ht ha hc;split at h
   ·rename_i p q hp hq;cases h;have ih:=Qpt hT hx hy d r q hq hn.2;cases hx with
    | agg _ _ hl1 _ hr1 =>
    cases hy with
    | agg _ _ hl2 _ hr2 =>
    obtain⟨u,hu⟩:∃ u,us[f.offset]? = some u:=⟨_,Array.getElem?_eq_getElem (by have:=(List.getElem?_eq_some_iff.1 ha).1; omega)⟩;obtain⟨v,hv⟩:∃ v,vs[f.offset]? = some v:=⟨_,Array.getElem?_eq_getElem (by have:=(List.getElem?_eq_some_iff.1 hc).1; omega)⟩;obtain⟨k1,k2⟩:=Q1q hT ht hp (hr1 _ _ _ ha hu) (hr2 _ _ _ hc hv) d;simp only[Op.eqFields,ne_eq,hn.1,not_false_eq_true,if_true,Sem.run_bind,Q2k hT ht k1 w hu,Q2k hT ht k1 w hv,Result.andThen_ok,k2];cases p with
    | true=>simp[ih]
    | false=>simp
   ·cases h
  ·cases h
def Q5r(tb:Tbl)(op:BinOp)(t:Nat)(x y:D)(s:S)(K:D->S->Prop):Prop :=
 match x,y with
 | .p (.agg xs),.p (.agg ys)=>match tb.lookup t with
  | some ti=>match ti.d with
   | .struct fs=>match Qkx tb xs ys fs.toList with
    | some b=>ti.cmp=true/\eqK op b λb=>K (.p (.v (.bool b))) s
    | none=>False
   | _=>False
  | none=>False
 | .p (.ep _),.p (.v (.pointer none))=>Qadk tb t=true/\eqK op false λb=>K (.p (.v (.bool b))) s
 | .p (.opt b _),.p (.v (.pointer none))=>Qadk tb t=true/\eqK op (!b) λb=>K (.p (.v (.bool b))) s
 | .p (.v (.pointer none)),.p (.v (.pointer none))=>Qadk tb t=true/\eqK op true λb=>K (.p (.v (.bool b))) s
 | x,y=>Qxj tb op t x y s K
theorem Qn2(hT:TblOk P tb){G:Gh}{w:World}{s:S}(hI:Inv G s w){K:D->S->Prop}{op:BinOp}{t:Nat}(ht:Qadk tb t=true)(a:Option Addr)(ox oy:Operand)(h:eqK op a.isNone λb=>K (.p (.v (.bool b))) s) :
  Out P G w ((do eqGuard op t ox oy (.pointer a) (.pointer none); binOp op t (.pointer a) (.pointer none):Sem Value).run P w) K:=by
 have hu:P.underlying t=some (.pointer (P.pointee t)):=by
  unfold Qadk at ht;split at ht
  .rename_i ti h1;have h2:=hT.und h1;split at ht
   .rename_i e hd;rw[hd] at h2;rw[h2];unfold Program.pointee;rw[h2]
   .cases ht
  .cases ht
 unfold eqK at h;split at h
 .refine .pure hI _ ?_ (.p _ _ (.v _ rfl)) h;rw[Sem.run_bind,Qhb _ _ _ _ _ _ (by simp) (by simp),Result.andThen_ok];exact run_eql_pointer_nil w t a hu
 .refine .pure hI _ ?_ (.p _ _ (.v _ rfl)) h;rw[Sem.run_bind,Qhb _ _ _ _ _ _ (by simp) (by simp),Result.andThen_ok];exact run_neq_pointer_nil w t a hu
 .exact h.elim
theorem Q5s(hT:TblOk P tb){G:Gh}{w:World}{s:S}(hI:Inv G s w){K:D->S->Prop}{op:BinOp}{t:Nat}{x y:D}{u v:Value}(hx:DRel G w x u)(hy:DRel G w y v)(ox oy:Operand)(h:Q5r tb op t x y s K) :
  Out P G w ((do eqGuard op t ox oy u v; binOp op t u v:Sem Value).run P w) K:=by
 unfold Q5r at h;split at h
 .rename_i xs ys;split at h
  .rename_i ti ht;split at h
   .rename_i fs hd;split at h
    .rename_i b hb;obtain⟨hc,h⟩:=h;have hu:=hT.und ht;obtain⟨_,i,_,_,_,_,hcm,_⟩:=hT _ _ ht;have hcm:=hcm hc;unfold Qagg at hcm;simp only[Bool.and_eq_true,Bool.not_eq_true'] at hcm;rw[hd] at hu;have hf:P.fieldsOf t=fs:=by unfold Program.fieldsOf; rw[hu]
     obtain⟨us,rfl,hx'⟩:∃ us,u = .agg us/\VRel G.com w (.agg xs) (.agg us):=by
      cases hx with | p _ _ h=>cases h with | agg _ us h1 h2 h3=>exact⟨us,rfl,.agg _ _ h1 h2 h3⟩
     obtain⟨vs,rfl,hy'⟩:∃ us,v = .agg us/\VRel G.com w (.agg ys) (.agg us):=by
      cases hy with | p _ _ h=>cases h with | agg _ us h1 h2 h3=>exact⟨us,rfl,.agg _ _ h1 h2 h3⟩
     have hrun:(Op.equalIn 10000 t (.agg us) (.agg vs)).run P w = .ok b w:=by
      rw[run_equalIn_struct w 9999 t us vs (by rw[hf]; exact hu) hcm.1.1,hf];refine Qpt hT hx' hy' 9998 _ _ hb ?_;rw[<-hf]; exact hcm.2
     unfold eqK at h;split at h
     .refine .pure hI _ ?_ (.p _ _ (.v _ rfl)) h;rw[Sem.run_bind,run_eqGuard_agg w _ t ox oy us vs hcm.1.2,Result.andThen_ok,run_eql_struct,hrun];rfl
     .refine .pure hI _ ?_ (.p _ _ (.v _ rfl)) h;rw[Sem.run_bind,run_eqGuard_agg w _ t ox oy us vs hcm.1.2,Result.andThen_ok,run_neq_struct,hrun];rfl
     .exact h.elim
    .exact h.elim
   .exact h.elim
  .exact h.elim
 .obtain⟨a,rfl⟩:∃ a,u = .pointer (some a):=by
   cases hx with | p _ _ h=>cases h with | ep _ b off us h1 h2=>exact⟨_,rfl⟩
  have e2:v = .pointer none:=by cases hy with | p _ _ h=>cases h; rfl
  subst e2;exact Qn2 hT hI h.1 _ ox oy h.2
 .rename_i b _;have e2:v = .pointer none:=by cases hy with | p _ _ h=>cases h; rfl
  subst e2;cases hx with
  | p _ _ hx =>
   cases hx with
   | opt _ _ _ h1 h2 =>
    cases b with
    | false=>rw[h1 rfl]; exact Qn2 hT hI h.1 _ ox oy h.2
    | true =>
     have:=h2 rfl;cases this;exact Qn2 hT hI h.1 _ ox oy h.2
 .have e1:u = .pointer none:=by cases hx with | p _ _ h=>cases h; rfl
  have e2:v = .pointer none:=by cases hy with | p _ _ h=>cases h; rfl
  subst e1; subst e2;exact Qn2 hT hI h.1 _ ox oy h.2
 .exact Q2j hT hI hx hy ox oy h
def aUn(op:UnOp)(x:D)(s:S)(K:D->S->Prop):Prop :=
 match op,x with
 | .neg,.p (.v (.int k n))=>K (.p (.v (.int k (k.wrap (0-n))))) s
 | .not,.p (.v (.bool b))=>K (.p (.v (.bool !b))) s
 | _,_=>False
theorem Qadl{G:Gh}{w:World}{s:S}(hI:Inv G s w){K:D->S->Prop}{op:UnOp}{x:D}{u:Value}(hx:DRel G w x u)(h:aUn op x s K):Out P G w ((Op.unary op u).run P w) K:=by
 unfold aUn at h;split at h
 .rename_i k n;have e:u = .int k n:=by cases hx with | p x u hx=>cases hx; rfl
  subst e;exact .pure hI _ (by simp[Op.unary,Op.intArith]) (.p _ _ (.v _ rfl)) h
 .rename_i b;have e:u = .bool b:=by cases hx with | p x u hx=>cases hx; rfl
  subst e;exact .pure hI _ (by simp[Op.unary]) (.p _ _ (.v _ rfl)) h
 .exact h.elim
def aLen(tb:Tbl)(t:Nat)(x:D)(s:S)(K:D->S->Prop):Prop :=
 match tb.lookup t with
 | some ti=>match ti.d,x with
  | .slice _,.p (.sl _ es)=>K (.p (.v (.int .i64 es.length))) s
  | .slice _,.own _ _ _ es=>K (.p (.v (.int .i64 es.length))) s
  | .slice _,.sf ds=>K (.p (.v (.int .i64 ds.length))) s
  | .string,.p (.v (.string z))=>K (.p (.v (.int .i64 (Qau z).length))) s
  | .array n _,_=>K (.p (.v (.int .i64 n))) s
  | _,_=>False
 | none=>False
theorem Qab3(hT:TblOk P tb){G:Gh}{w:World}{s:S}(hI:Inv G s w){K:D->S->Prop}{t ty:Nat}{x:D}{u:Value}(hx:DRel G w x u)(h:aLen tb t x s K):Out P G w ((Builtin.len_ #[t] ty #[u]).run P w) K:=by
 unfold aLen at h;split at h
 .rename_i ti ht;have hu:=hT.und ht;split at h
  .rename_i e full es hd;rw[hd] at hu;cases hx with
   | p x u hx =>
    obtain⟨a,cap,rfl,_⟩:=hx.isSlice;exact .pure hI _ (by simp[Builtin.len_,run_underlying hu,goInt]) (.p _ _ (.v _ rfl)) h
  .rename_i e t' e' sz es hd;rw[hd] at hu;cases hx with
   | own _ _ _ _ u T hx =>
    obtain⟨a,cap,rfl,_⟩:=hx.isSlice;exact .pure hI _ (by simp[Builtin.len_,run_underlying hu,goInt]) (.p _ _ (.v _ rfl)) h
  .rename_i e ds hd;rw[hd] at hu;cases hx with
   | sf _ b us h1 h2=>exact .pure hI _ (by simp[Builtin.len_,run_underlying hu,goInt]) (.p _ _ (.v _ rfl)) h
  .rename_i z hd;rw[hd] at hu;have e:u = .string z:=by cases hx with | p x u hx=>cases hx; rfl
   subst e;exact .pure hI _ (by simp[Builtin.len_,run_underlying hu,goInt,Qau]) (.p _ _ (.v _ rfl)) h
  .rename_i n e hd;rw[hd] at hu;exact .pure hI _ (by simp[Builtin.len_,run_underlying hu,goInt]) (.p _ _ (.v _ rfl)) h
  .exact h.elim
 .exact h.elim
def Quw(mx:Bool)(x y:D)(s:S)(K:D->S->Prop):Prop :=
 match x,y with
 | .p (.v (.int k a)),.p (.v (.int _ b))=>K (.p (.v (.int k (if mx then(if b>a then b else a) else(if b<a then b else a))))) s
 | _,_=>False
def Qta(mx:Bool)(x y z:D)(s:S)(K:D->S->Prop):Prop :=
 match x,y,z with
 | .p (.v (.int k a)),.p (.v (.int _ b)),.p (.v (.int _ c))=>K (.p (.v (.int k (if mx then(if c>(if b>a then b else a) then c else(if b>a then b else a)) else(if c<(if b<a then b else a) then c else(if b<a then b else a)))))) s
 | _,_,_=>False
theorem Qzw{G:Gh}{w:World}{s:S}(hI:Inv G s w){K:D->S->Prop}{mx:Bool}{x y z:D}{u v q:Value}(hx:DRel G w x u)(hy:DRel G w y v)(hz:DRel G w z q)(ts:Array TypeId)(ty:Nat)(h:Qta mx x y z s K) :
  Out P G w ((if mx then Builtin.max_ ts ty #[u,v,q] else Builtin.min_ ts ty #[u,v,q]).run P w) K:=by
 unfold Qta at h;split at h
 .rename_i k a k' b k'' c;have e1:u = .int k a:=by cases hx with | p x u hx=>cases hx; rfl
  have e2:v = .int k' b:=by cases hy with | p x u hx=>cases hx; rfl
  have e3:q = .int k'' c:=by cases hz with | p x u hx=>cases hx; rfl
  subst e1; subst e2; subst e3;cases mx
  .exact .pure hI _ (by simp[Builtin.min_,Builtin.min2]) (.p _ _ (.v _ rfl)) h
  .exact .pure hI _ (by simp[Builtin.max_,Builtin.max2]) (.p _ _ (.v _ rfl)) h
 .exact h.elim
theorem Qtb{G:Gh}{w:World}{s:S}(hI:Inv G s w){K:D->S->Prop}{mx:Bool}{x y:D}{u v:Value}(hx:DRel G w x u)(hy:DRel G w y v)(ts:Array TypeId)(ty:Nat)(h:Quw mx x y s K) :
  Out P G w ((if mx then Builtin.max_ ts ty #[u,v] else Builtin.min_ ts ty #[u,v]).run P w) K:=by
 unfold Quw at h;split at h
 .rename_i k a k' b;have e1:u = .int k a:=by cases hx with | p x u hx=>cases hx; rfl
  have e2:v = .int k' b:=by cases hy with | p x u hx=>cases hx; rfl
  subst e1; subst e2;cases mx
  .exact .pure hI _ (by simp[Builtin.min_,Builtin.min2]) (.p _ _ (.v _ rfl)) h
  .exact .pure hI _ (by simp[Builtin.max_,Builtin.max2]) (.p _ _ (.v _ rfl)) h
 .exact h.elim
theorem Qadm{C:Nat->Nat->Prop}{w:World}(b:Nat)(arr:Array Value)(ty:TypeId)(fr:Nat×Nat)(hb:w.heap[b]? = some (.cells arr ty fr))(hC:∀ o,C b o)(full:Bool)(es:List (List V))(size cap:Nat)
  (h1:es.length<=cap) (h2:cap<=maxLen) (h3:full=true->cap=es.length) (h4:∀ e ∈ es,e.length=size)
  (h:∀ (i k:Nat) e c,es[i]? = some e->e[k]? = some c->∃ u,arr[i*size+k]? = some u/\u.oneCell' = true/\VRel C w c u):VRel C w (.sl full es) (.slice (some ⟨b,0,none⟩) es.length cap):=by
 refine .sl full es _ cap size b 0 (λj=>arr.getD j undef) h1 h2 h3 h4 (λh=>by cases h) (λi k e c he hc=>?_) (λi k e c he hc=>?_) (λ_ ad had=>by cases had; exact(Array.getElem?_eq_some_iff.1 hb).1)
 .obtain⟨u,hu,ho,_⟩:=h i k e c he hc;have hg:arr.getD (i*size+k) undef=u:=by simp[Array.getD_eq_getD_getElem?,hu]
  refine⟨rfl,hC _,?_,?_⟩
  .rw[cell_of_row w b _ arr ty fr hb,Nat.zero_add,hg,hu]
  .rw[hg]; exact ho
 .obtain⟨u,hu,_,hv⟩:=h i k e c he hc;have hg:arr.getD (i*size+k) undef=u:=by simp[Array.getD_eq_getD_getElem?,hu]
  show VRel C w c (arr.getD (i*size+k) undef);rw[hg]; exact hv
def Qf4(c:UInt8):List V:=[.v (.int .u8 c.toNat)]
def Qadn(tb:Tbl)(src dst:Nat)(x:D)(s:S)(K:D->S->Prop):Prop :=
 match tb.lookup src,tb.lookup dst with
 | some ts,some td=>match td.d,x with
  | .int k,.p (.v (.int _ n))=>K (.p (.v (.int k (k.wrap n)))) s
  | .string,.p (.v (.string z))=>K (.p (.v (.string z))) s
  | .string,.p (.sl _ es)=>match ts.d with
   | .slice e=>match tb.lookup e with
    | some te=>match te.d with
     | .int .u8=>∃ l:List UInt8,es=l.map Qf4/\K (.p (.v (Qd1 l))) s
     | _=>False
    | none=>False
   | _=>False
  | .string,.own _ _ _ es=>match ts.d with
   | .slice e=>match tb.lookup e with
    | some te=>match te.d with
     | .int .u8=>∃ l:List UInt8,es=l.map Qf4/\K (.p (.v (Qd1 l))) s
     | _=>False
    | none=>False
   | _=>False
  | .slice e,.p (.v (.string z))=>match tb.lookup e,ts.d with
   | some te,.string=>match te.d with
    | .int .u8=>(Qau z).length<=maxLen/\K (.p (.sl false ((Qau z).map Qf4))) s
    | _=>False
   | _,_=>False
  | _,_=>False
 | _,_=>False
theorem Q5t(hT:TblOk P tb){G:Gh}{w:World}{src dst e:Nat}{ts td te:TI}(h1:tb.lookup src=some ts)(h2:tb.lookup dst=some td)(h3:tb.lookup e=some te)(d1:ts.d = .slice e)(d2:td.d = .string)(d3:te.d = .int .u8)
  {full:Bool} {es:List (List V)} {u:Value} (hx:VRel G.com w (.sl full es) u) (l:List UInt8) (hl:es=l.map Qf4):(convert src dst u).run P w = .ok (Qd1 l) w:=by
 have u1:=hT.und h1; have u2:=hT.und h2; have u3:=hT.und h3;rw[d1] at u1; rw[d2] at u2; rw[d3] at u3;subst hl;cases hx with
 | sl full es a cap size b off us g1 g2 g3 g4 g5 g6 g7 g8 =>
  cases a with
  | none =>
   have:=g5 rfl;have hl0:l=[]:=by
    have:(l.map Qf4).length=0:=by omega
    simpa using this
   subst hl0;rw[run_convert_bytes_string w src dst e none _ _ u1 u3 u2];rfl
  | some a =>
   have hlen:(l.map Qf4).length=l.length:=by simp
   rw[hlen];refine run_convert_bytes_back w src dst e a cap l u1 u3 u2 λj hj=>?_
   have he:(l.map Qf4)[j]? = some (Qf4 l[j]):=by rw[List.getElem?_map,List.getElem?_eq_getElem hj]; rfl
   have hsz:size=1:=(g4 _ (List.mem_of_getElem? he)).symm;obtain⟨ha,-,hc,-⟩:=g6 j 0 _ _ he (show(Qf4 l[j])[0]? = some (.v (.int .u8 l[j].toNat)) from rfl);have hv:=g7 j 0 _ _ he (show(Qf4 l[j])[0]? = some (.v (.int .u8 l[j].toNat)) from rfl);cases ha;rw[Qrj];subst hsz;simp only[Nat.mul_one,Nat.add_zero] at hc hv;rw[hc];generalize us j=q at hv;cases hv;rfl
theorem Q8e(hT:TblOk P tb){G:Gh}{w:World}{s:S}(hI:Inv G s w){K:D->S->Prop}{src dst:Nat}{x:D}{u:Value}(hx:DRel G w x u)(h:Qadn tb src dst x s K):Out P G w ((convert src dst u).run P w) K:=by
 unfold Qadn at h;split at h
 .rename_i ts td h1 h2;have u1:=hT.und h1; have u2:=hT.und h2;split at h
  .rename_i k k' n hd;rw[hd] at u2;have e:u = .int k' n:=by cases hx with | p x u hx=>cases hx; rfl
   subst e;refine .pure hI _ ?_ (.p _ _ (.v _ rfl)) h;simp[convert,run_underlying u1,run_underlying u2,Conv.intToInt]
  .rename_i z hd;rw[hd] at u2;have e:u = .string z:=by cases hx with | p x u hx=>cases hx; rfl
   subst e;refine .pure hI _ ?_ (.p _ _ (.v _ rfl)) h;simp[convert,run_underlying u1,run_underlying u2]
  .rename_i full es hd;split at h
   .rename_i e hs;split at h
    .rename_i te he;split at h
     .rename_i hb;obtain⟨l,hl,hK⟩:=h;cases hx with
      | p x u hx=>exact .pure hI _ (Q5t hT h1 h2 he hs hd hb hx l hl) (.p _ _ (.v _ rfl)) hK
     .exact h.elim
    .exact h.elim
   .exact h.elim
  .rename_i t' e' sz es hd;split at h
   .rename_i e hs;split at h
    .rename_i te he;split at h
     .rename_i hb;obtain⟨l,hl,hK⟩:=h;cases hx with
      | own _ _ _ _ u T hx=>exact .pure hI _ (Q5t hT h1 h2 he hs hd hb hx l hl) (.p _ _ (.v _ rfl)) hK
     .exact h.elim
    .exact h.elim
   .exact h.elim
  .rename_i e z hd;split at h
   .rename_i te he hs;split at h
    .rename_i hb;obtain⟨hm,h⟩:=h;have hm:z.size<=maxLen:=by simpa [Qau] using hm
     have e:u = .string z:=by cases hx with | p x u hx=>cases hx; rfl
     subst e;have u3:=hT.und he;rw[hd] at u2; rw[hs] at u1; rw[hb] at u3;have hr:=run_bytes_of_string (P:=P) w src dst e z u1 u2 u3;obtain⟨k1,k2⟩:=Quv (hI.drewN (w.drawn+1)) (bytesRow z (grownCap w z.size 0 e)) e ((bytesRow z (grownCap w z.size 0 e)).size,(bytesRow z (grownCap w z.size 0 e)).size+1);have hlen:((Qau z).map Qf4).length=z.size:=by simp[Qau]
     have hle:z.size<=grownCap w z.size 0 e:=grownCap_ge w z.size 0 e;refine⟨_,_,_,_,_,hr,(Stp.drewN G w (w.drawn+1)).trans k1,k2,.p _ _ ?_,h⟩;rw[<-hlen];refine Qadm w.heap.size _ e _ (heap_alloc_new w.drew _) (λo =>.inr rfl) false _ 1 _ (by rw[hlen]; exact hle) (grownCap_le_maxLen w _ 0 e (by rw[hlen]; exact hm)) (λh=>by cases h) (λe he=>by
      obtain⟨c,-,rfl⟩:=List.mem_map.1 he; rfl) (λi k e c he hc=>?_)
     rw[List.getElem?_map] at he;obtain⟨x,hx,rfl⟩:=Option.map_eq_some_iff.1 he;have hk:k=0:=by have:=(List.getElem?_eq_some_iff.1 hc).1; simp[Qf4] at this; exact this
     subst hk;have hcx:c = .v (.int .u8 x.toNat):=by simpa [Qf4] using hc.symm
     subst hcx;refine⟨.int .u8 x.toNat,?_,rfl,.v _ rfl⟩;have hi:i<z.data.size:=by have:=(List.getElem?_eq_some_iff.1 hx).1; simpa [Qau] using this
     have hx2:z.data[i]? = some x:=by simpa [Qau] using hx
     rw[Nat.mul_one,Nat.add_zero,bytesRow,Array.getElem?_append_left (by simpa using hi)];simp[hx2]
    .exact h.elim
   .exact h.elim
  .exact h.elim
 .exact h.elim
end
section
variable {P:Program} {tb:Tbl}
def bnd:Option D->Option (Option Int)
 | none=>some none
 | some (.p (.v (.int _ n)))=>some (some n)
 | _=>none
def evo(ev:Operand->Option D):Option Operand->Option (Option D)
 | none=>some none
 | some x=>match ev x with
  | some d=>some (some d)
  | none=>none
def Q2l(l h:Option Int)(n:Nat):Prop:=0<=l.getD 0/\l.getD 0<=h.getD n/\h.getD n<=n
def Q5u(tb:Tbl)(t:Nat)(x:D)(lo hi:Option D)(s:S)(K:D->S->Prop):Prop :=
 match tb.lookup t,bnd lo,bnd hi with
 | some ti,some l,some h=>match ti.d,x with
  | .string,.p (.v (.string z))=>Q2l l h (Qau z).length/\K (.p (.v (Qd1 (((Qau z).take (h.getD (Qau z).length).toNat).drop (l.getD 0).toNat)))) s
  | .slice e,.p (.sl full es)=>match tb.lookup e with
   | some te=>Q2l l h es.length/\(l=none\/∀ x ∈ es,x.length=te.size)/\K (.p (.sl (full&&h.isNone) ((es.take (h.getD es.length).toNat).drop (l.getD 0).toNat))) s
   | none=>False
  | .slice e,.own _ _ _ es=>match tb.lookup e with
   | some te=>Q2l l h es.length/\(l=none\/∀ x ∈ es,x.length=te.size)/\K (.p (.sl false ((es.take (h.getD es.length).toNat).drop (l.getD 0).toNat))) s
   | none=>False
  | _,_=>False
 | _,_,_=>False
def Qvk(G:Gh)(w:World)(x:Option D)(v:Option Value):Prop :=
 match x,v with
 | some d,some u=>DRel G w d u
 | none,none=>True
 | _,_=>False
theorem Qado{G:Gh}{w:World}{x:Option D}{v:Option Value}(h:Qvk G w x v){l:Option Int}(hb:bnd x=some l) :
  (l=none/\v=none)\/∃ k n,l=some n/\v=some (.int k n):=by
 unfold bnd at hb;split at hb
 .cases hb;cases v with
  | none=>exact .inl ⟨rfl,rfl⟩
  | some u=>exact h.elim
 .rename_i k n;cases hb;cases v with
  | none=>exact h.elim
  | some u =>
   have h:DRel G w (.p (.v (.int k n))) u:=h;cases h with
   | p x u h=>cases h; exact .inr ⟨k,n,rfl,rfl⟩
 .cases hb
theorem Q1r{isSlice:Bool}{len cap:Nat}{l h:Option Int}{lo hi:Option Value}(hl:(l=none/\lo=none)\/∃ k n,l=some n/\lo=some (.int k n))(hh:(h=none/\hi=none)\/∃ k n,h=some n/\hi=some (.int k n))
  (hc:Q2l l h len) (hcap:len<=cap) (w:World):(Instr.sliceBounds isSlice len cap lo hi none).run P w = .ok ((l.getD 0).toNat,(h.getD len).toNat,cap) w:=by
 obtain⟨c1,c2,c3⟩:=hc;rcases hl with ⟨rfl,rfl⟩ | ⟨k,n,rfl,rfl⟩<;>rcases hh with ⟨rfl,rfl⟩ | ⟨k', m,rfl,rfl⟩
 .simp[Instr.sliceBounds]
 .simp only[Option.getD_some,Option.getD_none] at c1 c2 c3;simp[Instr.sliceBounds,run_sliceBound w k' m cap _ c2 (by omega)]
 .simp only[Option.getD_some,Option.getD_none] at c1 c2 c3;simp[Instr.sliceBounds,run_sliceBound w k n len _ c1 (by omega)]
 .simp only[Option.getD_some] at c1 c2 c3;simp[Instr.sliceBounds,run_sliceBound w k' m cap _ (by omega) (by omega),run_sliceBound w k n m.toNat _ c1 (by omega)]
theorem Qagi(a:Addr)(n:Nat):(a.add n).block=a.block:=by unfold Addr.add; split<;>rfl
theorem VRel.cut{C:Nat->Nat->Prop}{w:World}{full:Bool}{es:List (List V)}{a:Option Addr}{n cap:Nat}(h:VRel C w (.sl full es) (.slice a n cap))(l m sz:Nat)(h1:l<=m)(h2:m<=n)(full' : Bool)(hf:full' = true->full=true/\m=n)
  (hs:l=0\/∀ x ∈ es,x.length=sz):VRel C w (.sl full' ((es.take m).drop l)) (.slice (if cap=l then a else a.map (·.add (l*sz))) (m-l) (cap-l)):=by
 generalize hn:Value.slice a n cap=u at h;cases h with
 | sl full es a' cap' size b off us g1 g2 g3 g4 g5 g6 g7 g8 =>
  cases hn;have hlen:((es.take m).drop l).length=m-l:=by simp; omega
  rw[<-hlen];have key:∀ (i k:Nat) e c,((es.take m).drop l)[i]? = some e->e[k]? = some c->es[l+i]? = some e/\(l=0\/size=sz):=λi k e c he hc=>by
   rw[List.getElem?_drop,List.getElem?_take] at he;split at he
   .refine⟨he,hs.imp id λhs=>?_⟩;have hm:=List.mem_of_getElem? he;rw[<-g4 e hm,hs e hm]
   .cases he
  refine .sl full' _ _ (cap-l) size b (off+l*size) (λj=>us (l*size+j)) (by rw[hlen]; omega) (by omega) (λhf' => ?_) (λe he=>g4 e (List.mem_of_mem_take (List.mem_of_mem_drop he))) (λha=>?_) (λi k e c he hc=>?_) (λi k e c he hc=>?_) (λhf' ad had=>?_)
  .obtain⟨f1,f2⟩:=hf hf';rw[hlen,g3 f1]; omega
  .split at ha
   .omega
   .cases a with
    | none=>have:=g5 rfl; omega
    | some a=>simp at ha
  .obtain⟨he2,hz⟩:=key i k e c he hc;obtain⟨p1,p2,p3,p4⟩:=g6 (l+i) k e c he2 hc;have e1:(l+i)*size=l*size+i*size:=Nat.add_mul _ _ _;rw[e1] at p2 p3 p4;have e2:off+l*size+i*size+k=off+(l*size+i*size)+k:=by omega
   have e3:l*size+(i*size+k)=l*size+i*size+k:=by omega
   refine⟨?_,by rw[e2]; exact p2,by rw[e2,e3]; exact p3,by rw[e3]; exact p4⟩;have hlt:=(List.getElem?_eq_some_iff.1 he2).1;rw[if_neg (by omega),p1];simp only[Option.map_some,Qrj];rcases hz with hz | hz
   .subst hz; simp
   .subst hz; rfl
  .obtain⟨he2,hz⟩:=key i k e c he hc;have:=g7 (l+i) k e c he2 hc;have e1:(l+i)*size=l*size+i*size:=Nat.add_mul _ _ _;rw[e1] at this;have e3:l*size+(i*size+k)=l*size+i*size+k:=by omega
   show VRel C w c (us (l*size+(i*size+k)));rw[e3]; exact this
  .split at had
   .exact g8 (hf hf').1 ad had
   .cases a with
    | none=>simp at had
    | some a=>simp only[Option.map_some,Option.some.injEq] at had; subst had; rw[Qagi]; exact g8 (hf hf').1 a rfl
theorem Q2m(z:ByteArray)(a b:Nat):Value.string (z.extract a b)=Qd1 (((Qau z).take b).drop a):=by
 unfold Qd1 Qau;congr 1;apply ByteArray.ext;apply Array.ext';simp[ByteArray.data_extract,Array.toList_extract,List.drop_take]
theorem Q5v(hT:TblOk P tb){G:Gh}{w:World}{s:S}(hI:Inv G s w){K:D->S->Prop}{t e:Nat}{ti te:TI}(ht:tb.lookup t=some ti)(hd:ti.d = .slice e)(he:tb.lookup e=some te){full full' : Bool}{es:List (List V)}{u:Value}(hx:VRel G.com w (.sl full es) u)
  {l h:Option Int} {lv hv:Option Value} (hl:(l=none/\lv=none)\/∃ k n,l=some n/\lv=some (.int k n)) (hh:(h=none/\hv=none)\/∃ k n,h=some n/\hv=some (.int k n))
  (h1:Q2l l h es.length) (h2:l=none\/∀ x ∈ es,x.length=te.size) (hf:full' = true->full=true/\h=none)
  (hK:K (.p (.sl full' ((es.take (h.getD es.length).toNat).drop (l.getD 0).toNat))) s):Out P G w ((Instr.sliceAt t u lv hv none).run P w) K:=by
 have hu:=hT.und ht;rw[hd] at hu;obtain⟨a,cap,rfl,c1,c2,c3,c4⟩:=hx.isSlice;have hb:=Q1r (P:=P) (isSlice:=true) hl hh h1 c1 w;refine .pure hI _ ?_ (.p _ _ (hx.cut (l.getD 0).toNat (h.getD es.length).toNat te.size ?_ ?_ full' ?_ ?_)) hK
 .simp[Instr.sliceAt,Instr.slice,run_underlying hu,hb,hT.sz he]
 .have:=h1.2.1; omega
 .have:=h1.2.2; omega
 .intro hf';obtain⟨f1,f2⟩:=hf hf';exact⟨f1,by rw[f2]; simp⟩
 .exact h2.imp (λe=>by rw[e]; rfl) id
theorem Q5w(hT:TblOk P tb){G:Gh}{w:World}{s:S}(hI:Inv G s w){K:D->S->Prop}{t:Nat}{x:D}{lo hi:Option D}{u:Value}{lv hv:Option Value}(hx:DRel G w x u)
  (hl:Qvk G w lo lv) (hh:Qvk G w hi hv) (h:Q5u tb t x lo hi s K) :
  Out P G w ((Instr.sliceAt t u lv hv none).run P w) K:=by
 unfold Q5u at h;split at h
 .rename_i ti l m ht hbl hbh;have hl:=Qado hl hbl;have hh:=Qado hh hbh;split at h
  .rename_i z hd;obtain⟨h1,hK⟩:=h;have hu:=hT.und ht;rw[hd] at hu;have e:u = .string z:=by cases hx with | p x u hx=>cases hx; rfl
   subst e;have hb:=Q1r (P:=P) (isSlice:=false) hl hh h1 (Nat.le_refl _) w;refine .pure hI _ ?_ (.p _ _ (.v _ rfl)) hK;have hz:z.size=(Qau z).length:=by simp[Qau]
   rw[<-Q2m z];rw[<-hz] at hb ⊢;simp[Instr.sliceAt,Instr.slice,run_underlying hu,hb]
  .rename_i e full es hd;split at h
   .rename_i te he;cases hx with
    | p x u hx=>exact Q5v hT hI ht hd he hx hl hh h.1 h.2.1 (λhf=>by simpa using hf) h.2.2
   .exact h.elim
  .rename_i e t' e' sz es hd;split at h
   .rename_i te he;cases hx with
    | own _ _ _ _ u T hx=>exact Q5v hT hI ht hd he hx hl hh h.1 h.2.1 (λhf=>by cases hf) h.2.2
   .exact h.elim
  .exact h.elim
 .exact h.elim
def Qtc(x:D)(i:Nat)(s:S)(K:D->S->Prop):Prop :=
 match x with
 | .tup cs=>match cs[i]? with
  | some c=>K c s
  | none=>False
 | _=>False
theorem Qzx{G:Gh}{w:World}{s:S}(hI:Inv G s w){K:D->S->Prop}{x:D}{i:Nat}{u:Value}(hx:DRel G w x u)(h:Qtc x i s K):Out P G w ((Instr.extract u i).run P w) K:=by
 unfold Qtc at h;split at h
 .rename_i cs;split at h
  .rename_i c hc;cases hx with
   | tup cs us h1 h2 =>
    have hlt:i<us.size:=by rw[<-h1]; exact(List.getElem?_eq_some_iff.1 hc).1
    refine .pure hI c ?_ (h2 i c us[i] hc (Array.getElem?_eq_getElem hlt)) h;simp[Instr.extract,hlt]
  .exact h.elim
 .exact h.elim
def Qpu(f:Fn)(first cap:Option (List D))(s:S)(K:D->S->Prop):Prop :=
 match first,cap with
 | some a,some b=>K (.fn f a b) s
 | _,_=>False
theorem Qxk{G:Gh}{w:World}{s:S}(hI:Inv G s w){K:D->S->Prop}{ev:Operand->Option D}{a:Act}(hev:∀ x d,ev x=some d->DRel G w d (a.eval x))(f:Fn)(xs ys:Array Operand)
  (h:Qpu f (evs ev xs.toList) (evs ev ys.toList) s K):Out P G w ((Instr.makeFunc f (xs.map a.eval) (ys.map a.eval)).run P w) K:=by
 unfold Qpu at h;split at h
 .rename_i l m hl hm;obtain⟨a1,a2⟩:=Qgi hev _ _ hl;obtain⟨b1,b2⟩:=Qgi hev _ _ hm;refine .pure hI _ rfl (.fn f l m _ _ (by simpa using a1) (by simpa using b1) (λj c u hc hu=>a2 j c u hc (by simpa using hu)) (λj c u hc hu=>b2 j c u hc (by simpa using hu))) h
 .exact h.elim
def Qtd(x:D)(s:S)(K:D->S->Prop):Prop :=
 match x with
 | .p (.ep cs)=>K (.p (.ep cs)) s
 | .p (.opt b cs)=>b=true/\K (.p (.ep cs)) s
 | .ptr nm off=>K (.ptr nm off) s
 | .fn (.func f) a b=>K (.fn (.func f) a b) s
 | _=>False
def Qadp{β : Type}:List D->(List D->Option β)->Option β
 | [],k=>k []
 | c::r,k=>Qadp r λr' => k (c::r')
theorem Qxl{β : Type}:∀ (l:List D) (k:List D->Option β),Qadp l k=k l
 | [],_=>rfl
 | _::r,_=>Qxl r _
def Qxm(places:Nat->Option (Nat×Nat))(cells:List D):List (Nat×D)->Option (List D)
 | []=>some cells
 | (i,d)::r=>match places i,Ql3 d with
  | some (off,size),some cs=>if cs.length=size/\off+cs.length<=cells.length then Qadp (cells.take off++cs++cells.drop (off+cs.length)) λcells' => Qxm places cells' r else none
  | _,_=>none
theorem Qadq(off:Nat):∀ (vs:List Value) (k:Nat) (cells:Array Value),off+k+vs.length<=cells.size ->
  ((vs.zipIdx k).foldl (λcs (x:Value×Nat)=>cs.setIfInBounds (off+x.2) x.1) cells).toList=cells.toList.take (off+k)++vs++cells.toList.drop (off+k+vs.length)
 | [],k,cells,_=>by simp
 | v::r,k,cells,h=>by
  simp only[List.length_cons] at h;rw[List.zipIdx_cons,List.foldl_cons,Qadq off r (k+1) _ (by simp; omega)];simp only[Array.toList_setIfInBounds,List.length_cons];have hk:off+k<cells.toList.length:=by simp; omega
  apply List.ext_getElem?;intro j;have e1:(List.take (off+(k+1)) (cells.toList.set (off+k) v)).length=off+k+1:=by simp; omega
  have e2:(List.take (off+k) cells.toList).length=off+k:=by simp; omega
  by_cases h1:j<off+k
  .rw[List.append_assoc,List.append_assoc,List.getElem?_append_left (by omega),List.getElem?_append_left (by omega),List.getElem?_take,List.getElem?_take,if_pos (by omega),if_pos h1,List.getElem?_set_ne (by omega)]
  .by_cases h2:j=off+k
   .subst h2;rw[List.append_assoc,List.append_assoc,List.getElem?_append_left (by omega),List.getElem?_append_right (by omega),e2,Nat.sub_self,List.getElem?_take,if_pos (by omega),List.getElem?_set_self hk];rfl
   .have e3:j-(off+k)=j-(off+k+1)+1:=by omega
    have eL:(List.take (off+(k+1)) (cells.toList.set (off+k) v)++(r++List.drop (off+(k+1)+r.length) (cells.toList.set (off+k) v)))[j]? = (r++List.drop (off+(k+1)+r.length) (cells.toList.set (off+k) v))[j-(off+k+1)]? := by
     rw[List.getElem?_append_right (by omega),e1]
    have eR:(List.take (off+k) cells.toList++(v::r++List.drop (off+k+(r.length+1)) cells.toList))[j]? = (r++List.drop (off+k+(r.length+1)) cells.toList)[j-(off+k+1)]? := by
     rw[List.getElem?_append_right (by omega),e2,e3,List.cons_append,List.getElem?_cons_succ]
    rw[List.append_assoc,List.append_assoc,eL,eR];by_cases h3:j-(off+k+1)<r.length
    .rw[List.getElem?_append_left h3,List.getElem?_append_left h3]
    .rw[List.getElem?_append_right (by omega),List.getElem?_append_right (by omega),List.getElem?_drop,List.getElem?_drop,List.getElem?_set_ne (by omega)];congr 1; omega
theorem CellsRel.splice{G:Gh}{w:World}{ds cs:List D}{us vs:Array Value}(h:CellsRel G w ds us)(k:CellsRel G w cs vs)(off:Nat)(hl:off+cs.length<=ds.length)(zs:Array Value)
  (hz:zs.toList=us.toList.take off++vs.toList++us.toList.drop (off+vs.size)):CellsRel G w (ds.take off++cs++ds.drop (off+cs.length)) zs:=by
 have hu:=h.1;have hv:=k.1;rw[hv] at hz;have hvl:vs.toList.length=cs.length:=by simpa using hv
 have t1:(us.toList.take off).length=off:=by simp; omega
 have t2:(ds.take off).length=off:=by simp; omega
 refine⟨?_,λj c u hc hu' => ?_⟩
 .have:zs.toList.length=_:=congrArg List.length hz;simp only[List.length_append,List.length_drop,t1,hvl,Array.length_toList] at this;simp only[List.length_append,List.length_drop,t2,this,hu]
 .have hu2:zs.toList[j]? = some u:=by simpa using hu'
  rw[hz,List.append_assoc] at hu2;rw[List.append_assoc] at hc;by_cases h1:j<off
  .rw[List.getElem?_append_left (by omega),List.getElem?_take,if_pos h1] at hu2 hc;exact h.2 j c u hc (by simpa using hu2)
  .rw[List.getElem?_append_right (by omega),t1] at hu2;rw[List.getElem?_append_right (by omega),t2] at hc;by_cases h2:j-off<cs.length
   .rw[List.getElem?_append_left (by omega)] at hu2 hc;exact k.2 _ c u hc (by simpa using hu2)
   .rw[List.getElem?_append_right (by omega),hvl,List.getElem?_drop] at hu2;rw[List.getElem?_append_right (by omega),List.getElem?_drop] at hc;exact h.2 _ c u hc (by simpa using hu2)
theorem Qpv{G:Gh}{w:World}{ev:Operand->Option D}{a:Act}(hev:∀ x d,ev x=some d->DRel G w d (a.eval x))(places:Nat->Option (Nat×Nat)):∀ (l:List (Nat×Operand)) (ps:List (Nat×D)) (ds:List D) (us:Array Value) (cs:List D),
  evps ev l=some ps->CellsRel G w ds us->Qxm places ds ps=some cs->∃ zs,Instr.fill places us (l.map λ(i,x)=>(i,a.eval x))=some zs/\CellsRel G w cs zs
 | [],ps,ds,us,cs,h,hd,hf=>by
  simp only[evps,Option.some.injEq] at h;subst h;simp only[Qxm,Option.some.injEq] at hf;subst hf;exact⟨us,rfl,hd⟩
 | (i,x)::r,ps,ds,us,cs,h,hd,hf=>by
  unfold evps at h;split at h
  .rename_i d l hx hl;cases h;unfold Qxm at hf;simp only[Qxl] at hf;split at hf
   .rename_i off size ks hp hk;split at hf
    .rename_i hc;have hr:=Qdz (hev x d hx) hk;have hsz:(a.eval x).cells.size=ks.length:=hr.1;have hus:us.size=ds.length:=hd.1;have hfo:=Qadq off (a.eval x).cells.toList 0 us (by simp; omega);rw[Nat.add_zero] at hfo;obtain⟨zs,hz,hc2⟩:=Qpv hev places r l _ ((a.eval x).cells.zipIdx.foldl (λcs (c,j)=>cs.setIfInBounds (off+j) c) us) cs hl (hd.splice hr off hc.2 _ (by
      rw[<-Array.foldl_toList,Array.toList_zipIdx];simpa using hfo)) hf
     refine⟨zs,?_,hc2⟩;simp only[List.map_cons];unfold Instr.fill;simp only[hp];rw[if_neg (by
      simp only[Bool.or_eq_true,decide_eq_true_eq,not_or,ne_eq,Decidable.not_not,Nat.not_lt,gt_iff_lt];omega)]
     exact hz
    .cases hf
   .cases hf
  .cases h
end
section
variable {P:Program} {tb:Tbl}
def Qte(tb:Tbl):List Field->Option (List (Nat×Nat))
 | []=>some []
 | f::r=>match tb.lookup f.type,Qte tb r with
  | some ti,some l=>some ((f.offset,ti.size)::l)
  | _,_=>none
theorem Qxn(hT:TblOk P tb):∀ (l:List Field) (ps:List (Nat×Nat)),Qte tb l=some ps->l.mapM (λf=>(P.info? f.type).map λi=>(f.offset,i.size))=some ps
 | [],ps,h=>by simp[Qte] at h; subst h; rfl
 | f::r,ps,h=>by
  unfold Qte at h;split at h
  .rename_i ti l hf hl;cases h;obtain⟨_,i,h1,h2,_⟩:=hT _ _ hf;simp[List.mapM_cons,h1,h2,Qxn hT r l hl]
  .cases h
def Q5x(tb:Tbl)(t:Nat)(ps:Option (List (Nat×D)))(s:S)(K:D->S->Prop):Prop :=
 match tb.lookup t,ps with
 | some ti,some ps=>match absV ti.zero with
  | some x=>match Ql3 (.p x) with
   | some z=>match ti.d with
    | .struct fields=>match Qte tb fields.toList with
     | some pl=>match Qxm (λi=>pl[i]?) z ps with
      | some cs=>K (aggD cs) s
      | none=>False
     | none=>False
    | .array _ e=>match tb.lookup e with
     | some te=>match Qxm (λi=>some (i*te.size,te.size)) z ps with
      | some cs=>K (aggD cs) s
      | none=>False
     | none=>False
    | _=>False
   | none=>False
  | none=>False
 | _,_=>False
theorem Q5y(hT:TblOk P tb){G:Gh}{w:World}{s:S}(hI:Inv G s w){K:D->S->Prop}{ev:Operand->Option D}{a:Act}(hev:∀ x d,ev x=some d->DRel G w d (a.eval x))(t:Nat)(parts:Array (Nat×Operand))
  (h:Q5x tb t (evps ev parts.toList) s K):Out P G w ((Instr.build t (parts.map λ(i,x)=>(i,a.eval x))).run P w) K:=by
 unfold Q5x at h;split at h
 .rename_i ti ps ht hps;obtain⟨hu,it,i1,i2,i3,i4,_⟩:=hT t ti ht;split at h
  .rename_i x hx;split at h
   .rename_i z hz;have hzr:CellsRel G w z ti.zero.cells:=Qdz (.p x _ (Ql4 hx)) hz;have hparts:(parts.map λ(i,x)=>(i,a.eval x)).toList=parts.toList.map λ(i,x)=>(i,a.eval x):=by simp
    split at h
    .rename_i fields hd;split at h
     .rename_i pl hpl;split at h
      .rename_i cs hcs;obtain⟨zs,f1,f2⟩:=Qpv hev (λi=>pl[i]?) parts.toList ps z ti.zero.cells cs hps hzr hcs;refine .pure hI _ (run_build w t _ zs ?_) f2.agg h;rw[hd] at hu;rw[hparts];simp only[Program.built,i1,hu,i4,Qxn hT _ _ hpl];simpa using f1
      .exact h.elim
     .exact h.elim
    .rename_i n e hd;split at h
     .rename_i te he;split at h
      .rename_i cs hcs;obtain⟨zs,f1,f2⟩:=Qpv hev _ parts.toList ps z ti.zero.cells cs hps hzr hcs;refine .pure hI _ (run_build w t _ zs ?_) f2.agg h;rw[hd] at hu;obtain⟨_,ie,e1,e2,_⟩:=hT e te he;rw[hparts];simp only[Program.built,i1,hu,i4,e1,e2];exact f1
      .exact h.elim
     .exact h.elim
    .exact h.elim
   .exact h.elim
  .exact h.elim
 .exact h.elim
def Qtf(size:Nat):Nat->List V->List (List V)
 | 0,_=>[]
 | n+1,l=>l.take size::Qtf size n (l.drop size)
theorem Q2n(size:Nat):∀ (n:Nat) (l:List V),l.length=n*size->(Qtf size n l).length=n/\(∀ e ∈ Qtf size n l,e.length=size)/\∀ (i k:Nat) e c,(Qtf size n l)[i]? = some e->e[k]? = some c->l[i*size+k]? = some c
 | 0,l,_=>⟨rfl,by simp[Qtf],by simp[Qtf]⟩
 | n+1,l,h=>by
  have hs:(n+1)*size=size+n*size:=by rw[Nat.add_mul]; omega
  obtain⟨h1,h2,h3⟩:=Q2n size n (l.drop size) (by simp; omega);refine⟨by simp[Qtf,h1],λe he=>?_,λi k e c he hc=>?_⟩
  .simp only[Qtf,List.mem_cons] at he;rcases he with rfl | he
   .simp; omega
   .exact h2 e he
  .cases i with
   | zero =>
    simp only[Qtf,List.getElem?_cons_zero,Option.some.injEq] at he;subst he;rw[List.getElem?_take] at hc;split at hc
    .simpa using hc
    .cases hc
   | succ i =>
    simp only[Qtf,List.getElem?_cons_succ] at he;have:=h3 i k e c he hc;rw[List.getElem?_drop] at this;have e1:(i+1)*size+k=size+(i*size+k):=by rw[Nat.add_mul]; omega
    rw[e1]; exact this
theorem Q2o{α : Type}(z:List α):∀ (n j:Nat),j<n*z.length->(List.replicate n z).flatten[j]? = z[j % z.length]?
 | 0,j,h=>by simp at h
 | n+1,j,h=>by
  rw[List.replicate_succ,List.flatten_cons];by_cases hj:j<z.length
  .rw[List.getElem?_append_left hj,Nat.mod_eq_of_lt hj]
  .rw[List.getElem?_append_right (by omega),Q2o z n (j-z.length) (by rw[Nat.add_mul] at h; omega),<-Nat.mod_eq_sub_mod (by omega)]
def Qlc(tb:Tbl)(t n:Nat)(ps:Option (List (Nat×D)))(s:S)(K:D->S->Prop):Prop :=
 match tb.lookup t,ps with
 | some ti,some ps=>match ti.d with
  | .slice e=>match tb.lookup e with
   | some te=>match absV te.zero with
    | some x=>match Ql3 (.p x) with
     | some z=>if n*te.size<=16777216/\z.length=te.size/\0<te.size then
      match Qxm (λi=>some (i*te.size,te.size)) (List.replicate n z).flatten ps with
       | some cs=>match unps cs with
        | some vs=>K (.p (.sl true (Qtf te.size n vs))) s
        | none=>if te.size=1 then K (.sf cs) s else False
       | none=>False
      else False
     | none=>False
    | none=>False
   | none=>False
  | _=>False
 | _,_=>False
theorem Qxo(places:Nat->Option (Nat×Nat)):∀ (ps:List (Nat×D)) (ds cs:List D),Qxm places ds ps=some cs->cs.length=ds.length
 | [],ds,cs,h=>by simp[Qxm] at h; rw[h]
 | (i,d)::r,ds,cs,h=>by
  unfold Qxm at h;simp only[Qxl] at h;split at h
  .split at h
   .rename_i hc;rw[Qxo places r _ cs h];simp; omega
   .cases h
  .cases h
theorem Qux(hT:TblOk P tb){G:Gh}{w:World}{s:S}(hI:Inv G s w){K:D->S->Prop}{ev:Operand->Option D}{a:Act}(hev:∀ x d,ev x=some d->DRel G w d (a.eval x))(t n:Nat)(parts:Array (Nat×Operand))
  (h:Qlc tb t n (evps ev parts.toList) s K):Out P G w ((Instr.buildSlice t n (parts.map λ(i,x)=>(i,a.eval x))).run P w) K:=by
 unfold Qlc at h;split at h
 .rename_i ti ps ht hps;have hu:=hT.und ht;split at h
  .rename_i e hd;rw[hd] at hu;split at h
   .rename_i te he;split at h
    .rename_i x hx;split at h
     .rename_i z hz;split at h
      .rename_i hc;obtain⟨hc1,hc2,hc3⟩:=hc;split at h
       .rename_i cs hcs;have hzr:CellsRel G w z te.zero.cells:=Qdz (.p x _ (Ql4 hx)) hz;have hzs:te.zero.cells.size=te.size:=by rw[hzr.1]; exact hc2
        have hparts:(parts.map λ(i,x)=>(i,a.eval x)).toList=parts.toList.map λ(i,x)=>(i,a.eval x):=by simp
        have hflen:(List.replicate n z).flatten.length=n*te.size:=by simp[hc2]
        obtain⟨Z,hZ0,hZs⟩:∃ Z:Array Value,(n*te.size=0->Z = #[])/\(n*te.size≠0->Z=te.zero.cells):=by
         by_cases h0:n*te.size=0
         .exact⟨#[],λ_=>rfl,λh=>absurd h0 h⟩
         .exact⟨te.zero.cells,λh=>absurd h h0,λ_=>rfl⟩
        have hbase:CellsRel G w (List.replicate n z).flatten ((Array.range (n*te.size)).map λx=>Z[x % Z.size]!):=by
         refine⟨by simp[hc2],λj c u hcj hu' => ?_⟩;have hj:j<n*te.size:=by rw[<-hflen]; exact(List.getElem?_eq_some_iff.1 hcj).1
         have hZe:=hZs (by omega);subst hZe;rw[Q2o z n j (by rw[hc2]; exact hj),hc2] at hcj;have hm:j % te.size<te.zero.cells.size:=by
          rw[hzs]; have:=(List.getElem?_eq_some_iff.1 hcj).1; omega
         have hu2:te.zero.cells[j % te.size]! = u:=by
          rw[Array.getElem?_map,Array.getElem?_range] at hu';simpa only[hj,if_true,Option.map_some,Option.some.injEq,hzs] using hu'
         rw[getElem!_pos te.zero.cells (j % te.size) hm] at hu2;exact hzr.2 _ c u hcj (by rw[Array.getElem?_eq_getElem hm,hu2])
        obtain⟨zs,f1,f2⟩:=Qpv hev _ parts.toList ps _ _ cs hps hbase hcs;have hcl:cs.length=n*te.size:=by rw[Qxo _ _ _ _ hcs,hflen]
        obtain⟨s1,s2⟩:=Quv hI zs e;have hrun:(Instr.buildSlice t n (parts.map λ(i,x)=>(i,a.eval x))).run P w = .ok (.slice (some ⟨w.heap.size,0,none⟩) n n) (w.alloc (.cells zs e)):=by
         have hn:¬ (n*te.size>2 ^ 24):=by omega
         simp only[Instr.buildSlice,Sem.run_bind,run_underlying hu,Result.andThen_ok,hT.sz he,hn,if_false];by_cases h0:n*te.size=0
         .have:=hZ0 h0; subst this;rw[if_pos h0];simp only[Sem.run_bind,Sem.run_pure,Result.andThen_ok,hparts,f1];rfl
         .have:=hZs h0; subst this;rw[if_neg h0];simp only[Sem.run_bind,Sem.run_pure,Result.andThen_ok,hT.zr he,hparts,f1];rfl
        split at h
        .rename_i vs hvs;obtain⟨u1,u2⟩:=Qhm (G:=G) (w:=w) cs vs hvs;obtain⟨k1,k2,k3⟩:=Q2n te.size n vs (by rw[u1,hcl]);refine⟨_,_,_,_,_,hrun,s1,s2,.p _ _ ?_,h⟩;have hr:=Qadm (C:=(G.with w.heap.size).com) (w:=w.alloc (.cells zs e)) w.heap.size zs e (0,0) (heap_alloc_new w _) (λo =>.inr rfl) true (Qtf te.size n vs) te.size n (by rw[k1]; exact Nat.le_refl _)
          (by have:=Nat.le_mul_of_pos_right n hc3; unfold maxLen; omega) (λ_=>k1.symm) k2 (λi k e' c he' hc' => ?_)
         .rw[k1] at hr; exact hr
         .have hv:=k3 i k e' c he' hc';obtain⟨d,hd', hun⟩:=u2 _ c hv;have hlt:i*te.size+k<zs.size:=by rw[f2.1]; exact(List.getElem?_eq_some_iff.1 hd').1
          obtain⟨o1,o2⟩:=f2.2 _ d zs[i*te.size+k] hd' (Array.getElem?_eq_getElem hlt);exact⟨_,Array.getElem?_eq_getElem hlt,o1,(Qfe o2 hun).mono s1.ext.size s1.ext.com⟩
        .split at h
         .rename_i h1;have hcn:n=cs.length:=by rw[hcl,h1,Nat.mul_one]
          have hg:∀ (i:Nat) d,cs[i]? = some d->∃ u,zs[i]? = some u/\u.oneCell' = true/\DRel G w d u:=λi d hd=>by
           have hlt:i<zs.size:=by rw[f2.1]; exact(List.getElem?_eq_some_iff.1 hd).1
           obtain⟨o1,o2⟩:=f2.2 _ d zs[i] hd (Array.getElem?_eq_getElem hlt);exact⟨_,Array.getElem?_eq_getElem hlt,o1,o2⟩
          refine⟨_,_,_,_,_,hrun,s1,s2,?_,h⟩;rw[hcn];refine .sf cs w.heap.size (λi=>zs.getD i undef) (λi d hd=>?_) (λi d hd=>?_)
          .obtain⟨u,g1,g2,g3⟩:=hg i d hd;have e1:zs.getD i undef=u:=by simp[Array.getD_eq_getD_getElem?,g1]
           refine⟨.inr rfl,?_,by rw[e1]; exact g2⟩;have hc:=cell_of_row (w.alloc (.cells zs e)) w.heap.size i zs e (0,0) (heap_alloc_new w _);rw[e1,hc]; exact g1
          .obtain⟨u,g1,g2,g3⟩:=hg i d hd;have e1:zs.getD i undef=u:=by simp[Array.getD_eq_getD_getElem?,g1]
           rw[e1]; exact g3.mono s1
         .exact h.elim
       .exact h.elim
      .exact h.elim
     .exact h.elim
    .exact h.elim
   .exact h.elim
  .exact h.elim
 .exact h.elim
end
end Go.Proofs.YtfgegilhjlnohaaGreat
end
