/- Part 2 of 12. -/
import Derived.Test.YtfgegilhjlnohaaGreatMgInferWide1
import Derived.Laws.MakeOwn
import Derived.Lib.AppendStr
import Derived.Orders
import Derived.OrdersIn
import Derived.IntWalk

noncomputable section
namespace Go.Proofs.YtfgegilhjlnohaaGreat
open Go.RowKit
set_option linter.unusedSimpArgs false
set_option linter.unusedVariables false
section
variable {P:Program} {tb:Tbl}
theorem VRel.flat{C:Nat->Nat->Prop}{w:World}{full:Bool}{es:List (List V)}{a:Option Addr}{n cap:Nat}(h:VRel C w (.sl full es) (.slice a n cap))(size:Nat)(hs:∀ x ∈ es,x.length=size)(hz:0<size) :
  ∃ us:List Value,us.length=n*size/\(∀ (i k:Nat) e c,es[i]? = some e->e[k]? = some c->∃ u,us[i*size+k]? = some u/\VRel C w c u)/\(∀ u ∈ us,u.oneCell' = true) /\
   (n=0\/∃ b off,a=some ⟨b,off,none⟩/\∀ (j:Nat) u,us[j]? = some u->w.cell? ⟨b,off+j,none⟩=some u/\C b (off+j)):=by
 generalize hn:Value.slice a n cap=v at h;cases h with
 | sl full es a' cap' sz b off us g1 g2 g3 g4 g5 g6 g7 g8 =>
  cases hn;have key:∀ j,j<es.length*size->∃ e c,es[j / size]? = some e/\e[j % size]? = some c/\j=j / size*size+j % size:=λj hj=>by
   have h1:j / size<es.length:=Nat.div_lt_of_lt_mul (by rw[Nat.mul_comm]; exact hj);have h2:j % size<(es[j / size]).length:=by rw[hs _ (List.getElem_mem h1)]; exact Nat.mod_lt _ hz
   exact⟨_,_,List.getElem?_eq_getElem h1,List.getElem?_eq_getElem h2,by rw[Nat.mul_comm]; exact(Nat.div_add_mod j size).symm⟩
  have hsz:∀ (i:Nat) e,es[i]? = some e->sz=size:=λi e he=>by
   have hm:=List.mem_of_getElem? he;rw[<-g4 e hm,hs e hm]
  refine⟨(List.range (es.length*size)).map us,by simp,λi k e c he hc=>?_,λu hu=>?_,?_⟩
  .have hz2:=hsz i e he;subst hz2;have hi:=(List.getElem?_eq_some_iff.1 he).1;have hk:k<sz:=by rw[<-hs e (List.mem_of_getElem? he)]; exact(List.getElem?_eq_some_iff.1 hc).1
   have hlt:i*sz+k<es.length*sz:=by
    have:(i+1)*sz<=es.length*sz:=Nat.mul_le_mul_right _ hi;rw[Nat.add_mul] at this; omega
   exact⟨us (i*sz+k),by rw[List.getElem?_map,List.getElem?_range hlt]; rfl,g7 i k e c he hc⟩
  .obtain⟨j,hj,rfl⟩:=List.mem_map.1 hu;obtain⟨e,c,he,hc,hj2⟩:=key j (by simpa using hj);have hz2:=hsz _ e he;subst hz2;rw[hj2];exact(g6 _ _ e c he hc).2.2.2
  .cases hl:es with
   | nil=>exact .inl rfl
   | cons x r =>
    refine .inr ?_;have hx:es[0]? = some x:=by rw[hl]; rfl
    have hz2:=hsz 0 x hx;subst hz2;have hxl:0<x.length:=by rw[hs x (List.mem_of_getElem? hx)]; exact hz
    obtain⟨ha,-⟩:=g6 0 0 x x[0] hx (List.getElem?_eq_getElem hxl);refine⟨b,off,ha,λj u hu=>?_⟩;have hj:j<es.length*sz:=by have:=(List.getElem?_eq_some_iff.1 hu).1; simpa [hl] using this
    obtain⟨e,c,he,hc,hj2⟩:=key j hj;obtain⟨-,p2,p3,-⟩:=g6 _ _ e c he hc;rw[List.getElem?_map,List.getElem?_range (by rw[<-hl]; exact hj)] at hu;cases hu;have e2:off+j=off+j / sz*sz+j % sz:=by omega
    rw[<-hj2] at p3;rw[e2];exact⟨p3,p2⟩
structure Grown (w w' : World) (e:TypeId) (size N:Nat) (cells:List Value) (g cap:Nat) (own:Option Nat) (bz:Bool:=false):Prop where
 os:w'.os=w.os
 tape:w'.tape=w.tape
 output:w'.output=w.output
 size_le:w.heap.size<=w'.heap.size
 row:∃ cur:Array Value,RowFz bz w' g cur e/\cur.size=cap*size/\cur.toList.take (N*size)=cells
 fits:N<=cap
 max:cap<=maxLen
 old:∀ k,k<w.heap.size->k≠g->w'.heap[k]? = w.heap[k]?
 which:g=w.heap.size\/own=some g
 shp:ShKept w w'
theorem Grown.row0{w w' : World}{e:TypeId}{size N:Nat}{cells:List Value}{g cap:Nat}{own:Option Nat}(h:Grown w w' e size N cells g cap own) :
  ∃ cur:Array Value,w'.heap[g]? = some (.cells cur e (0,0))/\cur.size=cap*size/\cur.toList.take (N*size)=cells:=by
 obtain⟨cur,h1,h2⟩:=h.row;exact⟨cur,h1.no,h2⟩
theorem Qq0{w:World}{b:Nat}{us vs:Array Value}{ty:TypeId}{fr:Nat×Nat}(h:w.heap[b]? = some (.cells us ty fr))(hs:vs.size=us.size):ShKept w (w.setRow b vs):=λk sh hk=>by
 by_cases hkb:k=b
 .subst hkb;rw[Ql2 h] at hk;rw[Ql2 (setRow_heap w k us vs ty fr h),hs]; exact hk
 .rw[Qjd (setRow_other w b k vs hkb)]; exact hk
theorem Qww(w:World)(e:TypeId)(size n m old:Nat)(z:Value)(hz:z.cells.size=size)(olds news:List Value)(hl:olds.length=n*size)(hm:news.length=m*size)(hb:n+m<=maxLen)(own:Option Nat){bz:Bool} :
  Grown w (w.drew.alloc (.cells (olds.toArray++news.toArray++Builtin.zeroCells z.cells (grownCap w (n+m) old e-(n+m))) e)) e size (n+m) (olds++news) w.heap.size (grownCap w (n+m) old e) own bz:=by
 have hge:=grownCap_ge w (n+m) old e;refine⟨rfl,rfl,rfl,by simp,⟨_,.of (heap_alloc_new w.drew _),?_,?_⟩,hge,grownCap_le_maxLen w _ old e hb,λk hk _=>Below.heap_alloc w.drew _ k hk,.inl rfl,Q2g w.drew _⟩
 .simp only[Array.size_append,List.size_toArray,size_zeroCells,hz,hl,hm,<-Nat.add_mul];congr 1;omega
 .simp only[Array.toList_append,List.append_assoc];rw[<-List.append_assoc,show(n+m)*size=(olds++news).length by rw[List.length_append,hl,hm,Nat.add_mul]];exact List.take_left
theorem Qq1(hT:TblOk P tb)(w:World){t e:Nat}(ty:TypeId){ti te:TI}(ht:tb.lookup t=some ti)(hd:ti.d = .slice e)(he:tb.lookup e=some te)(hz:te.zero.cells.size=te.size)
  (a:Option Addr) (n cap:Nat) (olds:List Value) (hol:olds.length=n*te.size) (hold:n=0\/∃ b off,a=some ⟨b,off,none⟩/\∀ (j:Nat) u,olds[j]? = some u->w.cell? ⟨b,off+j,none⟩=some u)
  (ha:a=none->cap=0) (hncap:n<=cap) (hcap:cap<=maxLen)
  (own:Option Nat) (hown:cap=n\/∃ (b:Nat) (us:Array Value),a=some ⟨b,0,none⟩/\own=some b/\w.heap[b]? = some (.cells us e (0,0))/\us.size=cap*te.size)
  (b' off' m c:Nat) (news:List Value) (hnl:news.length=m*te.size) (hnew:∀ (j:Nat) u,news[j]? = some u->w.cell? ⟨b', off' + j,none⟩=some u) (h1:∀ u ∈ news,u.oneCell' = true)
  (hm:0<m) (hmax:n+m<=maxLen) (hbytes:(n+m)*te.bytes<=140737488355328) :
  ∃ g cap' w', (Builtin.append_ #[t,t] ty #[.slice a n cap,.slice (some ⟨b', off', none⟩) m c]).run P w = .ok (.slice (some ⟨g,0,none⟩) (n+m) cap') w' /\ Grown w w' e te.size (n+m) (olds++news) g cap' own:=by
 obtain⟨_,i,i1,i2,i3,i4,_⟩:=hT e te he;have hu:=hT.und ht;rw[hd] at hu;have hnew' : ∀ (j:Nat) u,news[j]? = some u->w.cell? ((⟨b', off', none⟩:Addr).add j)=some u:=λj u hj=>by rw[Qrj]; exact hnew j u hj
 have h63:((n+m:Nat):Int)<=9223372036854775807:=by unfold maxLen at hmax; omega
 by_cases hroom:n+m<=cap
 .rcases hown with hc | ⟨b,us,rfl,rfl,hb,hus⟩
  .omega
  .have hfit:n*i.size+news.length<=us.size:=by rw[hnl,hus,i2,<-Nat.add_mul]; exact Nat.mul_le_mul_right _ hroom
   have hr:=run_append_room (P:=P) w t ty e i hu i1 b n cap us hb ⟨b', off', none⟩ m c news (by rw[i2]; exact hnl) hnew' h1 hroom hfit;have hol2:us.toList.take (n*te.size)=olds:=by
    apply List.ext_getElem?;intro j;rw[List.getElem?_take];split
    .rename_i hj;rcases hold with h0 | ⟨b2,off2,h2,h3⟩
     .subst h0; simp at hj
     .cases h2;have hj2:j<olds.length:=by omega
      have:=h3 j olds[j] (List.getElem?_eq_getElem hj2);rw[cell_of_row w b _ us e (0,0) hb,Nat.zero_add] at this;rw[List.getElem?_eq_getElem hj2,<-this]; simp
    .rename_i hj;rw[List.getElem?_eq_none (by omega)]
   refine⟨b,cap,_,hr,rfl,rfl,rfl,by simp[World.setRow],⟨_,.of (setRow_heap w b us _ e _ hb),?_,?_⟩,hroom,hcap,λk _ hk=>setRow_other w b k _ hk,.inr rfl,Qq0 hb ?_⟩
   rotate_right
   .simp only[List.size_toArray,List.length_append,List.length_take,List.length_drop,Array.length_toList]; omega
   .simp only[List.size_toArray,List.length_append,List.length_take,List.length_drop,Array.length_toList];omega
   .rw[i2,hol2];rw[show(n+m)*te.size=(olds++news).length by rw[List.length_append,hol,hnl,Nat.add_mul]];exact List.take_left
 .have hfits:=growslice_fits (need:=n+m) (old:=cap) (bytes:=i.bytes) (by omega) (by rw[i3]; exact hbytes);cases a with
  | none =>
   have hc0:=ha rfl;have hn0:n=0:=by omega
   subst hn0; subst hc0;have hol0:olds=[]:=List.eq_nil_of_length_eq_zero (by simpa using hol);subst hol0;have hr:=run_append_nil (P:=P) w t ty e i te.zero hu i1 i4 ⟨b', off', none⟩ m c news (by rw[i2]; exact hnl) hnew' hm (by unfold maxLen at hmax; omega) (by rw[i3]; rw[Nat.zero_add] at hbytes; omega);have hg:=Qww w e te.size 0 m 0 te.zero hz [] news (by simp) hnl hmax own (bz:=false);simp only[Nat.zero_add,List.nil_append,Array.empty_append] at hg ⊢;exact⟨_,_,_,hr,hg⟩
  | some ad =>
   have holds:∀ (j:Nat) v,olds[j]? = some v->w.cell? (ad.add j)=some v:=λj v hj=>by
    rcases hold with h0 | ⟨b2,off2,h2,h3⟩
    .subst h0;have:olds=[]:=List.eq_nil_of_length_eq_zero (by simpa using hol);subst this; simp at hj
    .cases h2; rw[Qrj]; exact h3 j v hj
   have hr:=run_append_grow (P:=P) w t ty e i te.zero hu i1 i4 ad n cap olds (by rw[i2]; exact hol) holds ⟨b', off', none⟩ m c news (by rw[i2]; exact hnl) hnew' (by omega) h63 hfits;exact⟨_,_,_,hr,Qww w e te.size n m cap te.zero hz olds news hol hnl hmax own⟩
def Gh.grow(G:Gh)(t g N size:Nat):Gh :=
 { com:=λb o=>G.com b o\/(b=g/\o<N*size),name:=G.name,tok:=G.tok.set t ⟨N,some g,N*size,none⟩ }
theorem Q2p{G:Gh}{s:S}{w w' : World}(hI:Inv G s w){t:Nat}{T:Tok}(hT:G.tok[t]? = some T){e size n m g cap:Nat}{cells:List Value}{bz:Bool}(hG:Grown w w' e size (n+m) cells g cap T.blk bz)(hp:T.pro=none)(hn:T.len=n)(hm:0<m)
  (hc:T.blk=some g->T.cells=n*size) (hcl:cells.length=(n+m)*size)
  (hold:T.blk=some g->∀ j u,j<n*size->cells[j]? = some u->w.cell? ⟨g,j,none⟩=some u) :
  Stp G w (G.grow t g (n+m) size) w' /\ Inv (G.grow t g (n+m) size) { s with live:=s.live.set t (n+m) } w' := by
 have hTm:T ∈ G.tok:=List.mem_of_getElem? hT;obtain⟨cur,⟨fr,r1,-⟩,r2,r3⟩:=hG.row;have hgn:g ∉ G.name:=λhm=>by
  rcases hG.which with h | h
  .have:=Qd5 hI g hm; omega
  .exact(hI.tok t T g hT (.inl h)).2.1 hm
 have hg' : g<w'.heap.size:=(Array.getElem?_eq_some_iff.1 r1).1;have hgt:∀ (t' : Nat) T', G.tok[t']? = some T' -> T'.has g->t' = t:=λt' T' h1 h2=>by
  rcases hG.which with h | h
  .have:=(hI.tok t' T' g h1 h2).1; omega
  .exact(hI.tok t T g hT (.inl h)).2.2 t' T' h1 h2
 have hlt:t<G.tok.length:=(List.getElem?_eq_some_iff.1 hT).1;have hlive:G.tok.map (·.len)=s.live:=hI.live;have hst:Stp G w (G.grow t g (n+m) size) w' := by
  refine⟨⟨hG.os,hG.tape,hG.output,hG.size_le,λb o u h hu=>⟨.inl h,?_⟩,λb h1 h2 h3=>?_,λb o h=>?_,λb h=>?_,λ_ _ h =>.inl h,hG.shp⟩,λnm b h=>h,λt' T' h=>?_⟩
  .have hb:=hI.com b o h;by_cases hbg:b=g
   .subst hbg;rcases hG.which with h1 | h1
    .omega
    .have ho:=(hb.2.2 T hTm).1 h1;rw[hc h1] at ho;have hoc:o<cells.length:=by rw[hcl,Nat.add_mul]; omega
     have h2:=hold h1 o cells[o] ho (List.getElem?_eq_getElem hoc);rw[hu] at h2;rw[cell_of_row w' b o cur e fr r1];have h3:cells[o]? = some u:=by rw[List.getElem?_eq_getElem hoc]; exact h2.symm
     rw[<-r3,List.getElem?_take] at h3;split at h3
     .simpa using h3
     .cases h3
   .rw[World.cell?_of_block (w:=w) (hG.old b hb.1 hbg)]; exact hu
  .refine hG.old b h1 λe=>?_
   subst e;rcases hG.which with h | h
   .omega
   .exact h3 T hTm (.inl h)
  .rcases h with h | ⟨rfl,-⟩
   .exact .inl h
   .rcases hG.which with h | h
    .exact .inr (.inl (by omega))
    .exact .inr (.inr (.inr ⟨T,hTm,.inl h⟩))
  .rcases h with h | ⟨T', hT', hb⟩
   .exact .inr (.inl h)
   .have hT' : T' ∈ G.tok.set t ⟨n+m,some g,(n+m)*size,none⟩:=hT';rcases List.mem_or_eq_of_mem_set hT' with h | h
    .exact .inr (.inr ⟨T', h,hb⟩)
    .subst h;have hb:=Tok.has_row.1 hb;cases hb;rcases hG.which with h | h
     .exact .inl (by omega)
     .exact .inr (.inr ⟨T,hTm,.inl h⟩)
  .by_cases htt:t' = t
   .subst htt;rw[hT] at h;cases h;exact⟨⟨n+m,some g,(n+m)*size,none⟩,List.getElem?_set_self hlt,⟨by simp only; omega,by simp[hp]⟩,λe=>by simp only at e; omega⟩
   .refine⟨T', ?_,.refl T', λ_=>⟨rfl,λb hb=>hG.old b (hI.tok t' T' b h hb).1 λe=>htt (hgt t' T' h (e ▸ hb))⟩⟩;show(G.tok.set t _)[t']? = _;rw[List.getElem?_set_ne (λe=>htt e.symm)]; exact h
 refine⟨hst,⟨λb o h=>?_,hI.names,hI.nodup,λi b cs hb hcs=>?_,?_,λt' T' b h hb=>?_,λT' hT' => ?_,hI.glob.mono hst.ext.com⟩⟩
 rotate_right
 .have hT' : T' ∈ G.tok.set t ⟨n+m,some g,(n+m)*size,none⟩:=hT';obtain⟨i,hi⟩:=List.getElem?_of_mem hT';by_cases hit:t=i
  .subst hit;rw[List.getElem?_set_self hlt] at hi;cases hi;exact⟨λq hq=>(nomatch hq),λb o ⟨q,hq,_⟩=>(nomatch hq)⟩
  .rw[List.getElem?_set_ne hit] at hi;have hm:=List.mem_of_getElem? hi;exact⟨Tok.ok_ext (hI.pro T' hm) hst.ext λb hb=>hG.old b (hI.tok i T' b hi hb).1 λe=>hit (hgt i T' hi (e ▸ hb)).symm,λb o hr =>.inl ((hI.pro T' hm).2 b o hr)⟩
 .have htok:∀ T' ∈ G.tok.set t ⟨n+m,some g,(n+m)*size,none⟩,T'.may b o:=λT' hT' => by
   rcases List.mem_or_eq_of_mem_set hT' with h' | h'
   .rcases h with h | ⟨rfl,h⟩
    .exact(hI.com b o h).2.2 T' h'
    .have key:T'.has b->T'.may b o:=λhb=>by
      obtain⟨t', ht'⟩:=List.getElem?_of_mem h';have e1:=hgt t' T' ht' hb;subst e1;rw[hT] at ht';cases ht';rcases List.getElem?_of_mem hT' with ⟨i,hi⟩
      by_cases hit:t' = i
      .subst hit;rw[List.getElem?_set_self hlt] at hi;cases hi; exact Tok.may_row.2 λ_=>h
      .rw[List.getElem?_set_ne hit] at hi;exact absurd (hgt i T hi hb).symm hit
     exact⟨λhb=>(key (.inl hb)).1 hb,λhb=>(key (.inr hb)).2 hb⟩
   .subst h';refine Tok.may_row.2 λhb=>?_
    cases hb;rcases h with h | ⟨-,h⟩
    .rcases hG.which with h1 | h1
     .have:=(hI.com _ o h).1; omega
     .have ho:=((hI.com _ o h).2.2 T hTm).1 h1;rw[hc h1] at ho;show o<(n+m)*size;rw[Nat.add_mul]; omega
    .exact h
  rcases h with h | ⟨rfl,h⟩
  .obtain⟨h1,h2,-⟩:=hI.com b o h;exact⟨Nat.lt_of_lt_of_le h1 hG.size_le,h2,htok⟩
  .exact⟨hg', hgn,htok⟩
 .have hbn:b ∈ G.name:=List.mem_of_getElem? hb;exact(hI.var i b cs hb hcs).mono hst (by rw[hG.old b (Qd5 hI b hbn) λe=>hgn (e ▸ hbn)])
 .show(G.tok.set t _).map (·.len)=s.live.set t (n+m);rw[List.map_set,hlive]
 .have h:(G.tok.set t ⟨n+m,some g,(n+m)*size,none⟩)[t']? = some T' := h;have hb2:b<w'.heap.size/\b ∉ G.name/\(b=g\/∃ T'', G.tok[t']? = some T'' /\ T''.has b)/\(t' = t->b=g):=by
   by_cases htt:t' = t
   .subst htt;rw[List.getElem?_set_self hlt] at h;cases h;have hb:=Tok.has_row.1 hb;cases hb;exact⟨hg', hgn,.inl rfl,λ_=>rfl⟩
   .rw[List.getElem?_set_ne (λe=>htt e.symm)] at h;obtain⟨h1,h2,-⟩:=hI.tok t' T' b h hb;exact⟨Nat.lt_of_lt_of_le h1 hG.size_le,h2,.inr ⟨T', h,hb⟩,λe=>absurd e htt⟩
  refine⟨hb2.1,hb2.2.1,λt'' T'' h0 hb'' => ?_⟩;have h'' : (G.tok.set t ⟨n+m,some g,(n+m)*size,none⟩)[t'']? = some T'' := h0;clear h0;by_cases h1:t'' = t
  .subst h1;rw[List.getElem?_set_self hlt] at h'';cases h'';have hb'' := Tok.has_row.1 hb'';cases hb'';by_cases h2:t' = t''
   .exact h2.symm
   .rw[List.getElem?_set_ne (λe=>h2 e.symm)] at h;exact absurd (hgt t' T' h hb) h2
  .rw[List.getElem?_set_ne (λe=>h1 e.symm)] at h'';by_cases h2:t' = t
   .have:=hb2.2.2.2 h2;subst this;exact absurd (hgt t'' T'' h'' hb'') h1
   .rw[List.getElem?_set_ne (λe=>h2 e.symm)] at h;exact(hI.tok t' T' b h hb).2.2 t'' T'' h'' hb''
theorem Qq2{C:Nat->Nat->Prop}{w:World}(b:Nat)(arr:Array Value)(ty:TypeId)(fr:Nat×Nat)(hb:w.heap[b]? = some (.cells arr ty fr))(es:List (List V))(size cap:Nat)(hC:∀ o,o<es.length*size->C b o)(full:Bool)
  (h1:es.length<=cap) (h2:cap<=maxLen) (h3:full=true->cap=es.length) (h4:∀ e ∈ es,e.length=size)
  (h:∀ (i k:Nat) e c,es[i]? = some e->e[k]? = some c->∃ u,arr[i*size+k]? = some u/\u.oneCell' = true/\VRel C w c u):VRel C w (.sl full es) (.slice (some ⟨b,0,none⟩) es.length cap):=by
 refine .sl full es _ cap size b 0 (λj=>arr.getD j undef) h1 h2 h3 h4 (λh=>by cases h) (λi k e c he hc=>?_) (λi k e c he hc=>?_) (λ_ ad had=>by cases had; exact(Array.getElem?_eq_some_iff.1 hb).1)
 .obtain⟨u,hu,ho,_⟩:=h i k e c he hc;have hg:arr.getD (i*size+k) undef=u:=by simp[Array.getD_eq_getD_getElem?,hu]
  have hi:=(List.getElem?_eq_some_iff.1 he).1;have hk:k<size:=by rw[<-h4 e (List.mem_of_getElem? he)]; exact(List.getElem?_eq_some_iff.1 hc).1
  have hlt:i*size+k<es.length*size:=by
   have:(i+1)*size<=es.length*size:=Nat.mul_le_mul_right _ hi;rw[Nat.add_mul] at this; omega
  refine⟨rfl,by rw[Nat.zero_add]; exact hC _ hlt,?_,?_⟩
  .rw[cell_of_row w b _ arr ty fr hb,Nat.zero_add,hg,hu]
  .rw[hg]; exact ho
 .obtain⟨u,hu,_,hv⟩:=h i k e c he hc;have hg:arr.getD (i*size+k) undef=u:=by simp[Array.getD_eq_getD_getElem?,hu]
  show VRel C w c (arr.getD (i*size+k) undef);rw[hg]; exact hv
theorem Qk3{G:Gh}{s:S}{w:World}(hI:Inv G s w)(n:Nat):Stp G w { G with tok:=G.tok++[⟨n,none,0,none⟩] } w/\Inv { G with tok:=G.tok++[⟨n,none,0,none⟩] } { s with live:=s.live++[n] } w:=by
 have key:∀ (t:Nat) T,G.tok[t]? = some T->(G.tok++[⟨n,none,0,none⟩])[t]? = some T:=λt T h=>by
  rw[List.getElem?_append_left (List.getElem?_eq_some_iff.1 h).1]; exact h
 have back:∀ (t:Nat) T b,(G.tok++[⟨n,none,0,none⟩])[t]? = some T->T.has b->G.tok[t]? = some T:=λt T b h hb=>by
  by_cases ht:t<G.tok.length
  .rw[List.getElem?_append_left ht] at h; exact h
  .rw[List.getElem?_append_right (by omega)] at h;have h2:T ∈ [(⟨n,none,0,none⟩:Tok)]:=List.mem_of_getElem? h;simp at h2;subst h2;have hb:=Tok.has_row.1 hb;cases hb
 have hst:Stp G w { G with tok:=G.tok++[⟨n,none,0,none⟩] } w:=by
  refine⟨⟨rfl,rfl,rfl,Nat.le_refl _,λ_ _ _ h k=>⟨h,k⟩,λ_ _ _ _=>rfl,λ_ _ h =>.inl h,λb h=>?_,λ_ _ h=>h,.refl w⟩,λ_ _ h=>h,λt T h=>⟨T,key t T h,.refl T,λ_=>⟨rfl,λ_ _=>rfl⟩⟩⟩;rcases h with h | ⟨T,hT,hb⟩
  .exact .inr (.inl h)
  .obtain⟨t,ht⟩:=List.getElem?_of_mem hT;exact .inr (.inr ⟨T,List.mem_of_getElem? (back t T b ht hb),hb⟩)
 refine⟨hst,⟨λb o h=>?_,hI.names,hI.nodup,λi b cs hb hcs=>?_,by simp[hI.live],λt T b h hb=>?_,λT hT=>?_,hI.glob.mono hst.ext.com⟩⟩
 rotate_right
 .obtain⟨t,ht⟩:=List.getElem?_of_mem hT;have ht:(G.tok++[⟨n,none,0,none⟩])[t]? = some T:=ht;by_cases hl:t<G.tok.length
  .rw[List.getElem?_append_left hl] at ht;exact hI.pro T (List.mem_of_getElem? ht)
  .rw[List.getElem?_append_right (by omega)] at ht;have h2:T ∈ [(⟨n,none,0,none⟩:Tok)]:=List.mem_of_getElem? ht;simp at h2;subst h2;exact⟨λq hq=>(nomatch hq),λb o ⟨q,hq,_⟩=>(nomatch hq)⟩
 .obtain⟨h1,h2,h3⟩:=hI.com b o h;refine⟨h1,h2,λT hT=>?_⟩;obtain⟨t,ht⟩:=List.getElem?_of_mem hT;exact⟨λhb=>(h3 T (List.mem_of_getElem? (back t T b ht (.inl hb)))).1 hb,λhb=>(h3 T (List.mem_of_getElem? (back t T b ht (.inr hb)))).2 hb⟩
 .exact(hI.var i b cs hb hcs).mono hst rfl
 .obtain⟨h1,h2,h3⟩:=hI.tok t T b (back t T b h hb) hb;exact⟨h1,h2,λt' T' h' hb' => h3 t' T' (back t' T' b h' hb') hb'⟩
theorem Q2q{G:Gh}{s:S}{w:World}(hI:Inv G s w)(us:Array Value)(ty:TypeId)(fr:Nat×Nat)(n c:Nat) :
  Stp G w ⟨λb o=>G.com b o\/(b=w.heap.size/\o<c),G.name,G.tok++[⟨n,some w.heap.size,c,none⟩]⟩ (w.alloc (.cells us ty fr)) /\
   Inv ⟨λb o=>G.com b o\/(b=w.heap.size/\o<c),G.name,G.tok++[⟨n,some w.heap.size,c,none⟩]⟩ { s with live:=s.live++[n] } (w.alloc (.cells us ty fr)):=by
 have key:∀ (t:Nat) T,G.tok[t]? = some T->(G.tok++[⟨n,some w.heap.size,c,none⟩])[t]? = some T:=λt T h=>by
  rw[List.getElem?_append_left (List.getElem?_eq_some_iff.1 h).1]; exact h
 have back:∀ (t:Nat) T,(G.tok++[⟨n,some w.heap.size,c,none⟩])[t]? = some T->G.tok[t]? = some T\/(t=G.tok.length/\T=⟨n,some w.heap.size,c,none⟩):=λt T h=>by
  by_cases ht:t<G.tok.length
  .rw[List.getElem?_append_left ht] at h; exact .inl h
  .have h3:=(List.getElem?_eq_some_iff.1 h).1;simp only[List.length_append,List.length_cons,List.length_nil] at h3;rw[List.getElem?_append_right (by omega)] at h;have h2:T ∈ [(⟨n,some w.heap.size,c,none⟩:Tok)]:=List.mem_of_getElem? h;simp at h2;exact .inr ⟨by omega,h2⟩
 have fresh:∀ (t:Nat) T,G.tok[t]? = some T->¬ T.has w.heap.size:=λt T h hb=>absurd (hI.tok t T _ h hb).1 (Nat.lt_irrefl _)
 have hst:Stp G w ⟨λb o=>G.com b o\/(b=w.heap.size/\o<c),G.name,G.tok++[⟨n,some w.heap.size,c,none⟩]⟩ (w.alloc (.cells us ty fr)) :=
  Stp.alloc _ (λ_ _ h =>.inl h) (λ_ _ h=>h.imp id (·.1)) (λnm b hb=>hb) (λb hb =>.inl hb) key (λT b hT hb=>by
   obtain⟨t,ht⟩:=List.getElem?_of_mem hT;rcases back t T ht with h | ⟨-,h⟩
   .exact .inl (List.mem_of_getElem? h)
   .subst h;have hb:=Tok.has_row.1 hb;cases hb;exact .inr rfl) (λt T b hT hb=>(hI.tok t T b hT hb).1)
 refine⟨hst,⟨λb o h=>?_,hI.names,hI.nodup,λi b cs hb hcs=>?_,by simp[hI.live],λt T b h hb=>?_,λT hT=>?_,hI.glob.mono hst.ext.com⟩⟩
 .have h:G.com b o\/(b=w.heap.size/\o<c):=h;rcases h with h | ⟨rfl,ho⟩
  .obtain⟨h1,h2,h3⟩:=hI.com b o h;refine⟨by simp; omega,h2,λT hT=>?_⟩;obtain⟨t,ht⟩:=List.getElem?_of_mem hT;rcases back t T ht with h | ⟨-,h⟩
   .exact h3 T (List.mem_of_getElem? h)
   .subst h;exact Tok.may_row.2 λe=>by cases e; omega
  .refine⟨by simp,λhm=>absurd (Qd5 hI _ hm) (Nat.lt_irrefl _),λT hT=>?_⟩;obtain⟨t,ht⟩:=List.getElem?_of_mem hT;rcases back t T ht with h | ⟨-,h⟩
   .exact⟨λhb=>absurd (.inl hb) (fresh t T h),λhb=>absurd (.inr hb) (fresh t T h)⟩
   .subst h;exact Tok.may_row.2 λ_=>ho
 .have hv:=hI.var i b cs hb hcs;exact hv.mono hst (by rw[Qfo,if_neg (by have:=hv.lt; omega)])
 .rcases back t T h with h | ⟨rfl,rfl⟩
  .obtain⟨h1,h2,h3⟩:=hI.tok t T b h hb;refine⟨by simp; omega,h2,λt' T' h' hb' => ?_⟩;rcases back t' T' h' with h' | ⟨-,rfl⟩
   .exact h3 t' T' h' hb'
   .have hb' := Tok.has_row.1 hb';cases hb';omega
  .have hb:=Tok.has_row.1 hb;cases hb;refine⟨by simp,λhm=>absurd (Qd5 hI _ hm) (Nat.lt_irrefl _),λt' T' h' hb' => ?_⟩;rcases back t' T' h' with h' | ⟨h', -⟩
   .exact absurd hb' (fresh t' T' h')
   .exact h'
 .obtain⟨t,ht⟩:=List.getElem?_of_mem hT;rcases back t T ht with h | ⟨-,rfl⟩
  .have hm:=List.mem_of_getElem? h;exact⟨Tok.ok_ext (hI.pro T hm) hst.ext λb hb=>by rw[Qfo,if_neg (by have:=(hI.tok t T b h hb).1; omega)],λb o hr =>.inl ((hI.pro T hm).2 b o hr)⟩
  .exact⟨λq hq=>(nomatch hq),λb o ⟨q,hq,_⟩=>(nomatch hq)⟩
def aApp(tb:Tbl)(t:Nat)(x y:D)(s:S)(K:D->S->Prop):Prop :=
 match tb.lookup t,unp y with
 | some ti,some (.sl _ fs)=>match ti.d with
  | .slice e=>match tb.lookup e with
   | some te=>if te.zero.cells.size=te.size/\0<te.size/\e<1000000 then
    match x with
    | .own tk e' sz es=>if(e' = e\/e' = e+1000000)/\sz=te.size then s.live[tk]? = some es.length/\((∀ x ∈ fs,x.length=te.size)/\(es.length+fs.length)*te.bytes<=140737488355328/\es.length+fs.length<=9223372036854775807) /\
      K (.own tk e' te.size (es++fs)) { s with live:=s.live.set tk (es++fs).length } else False
    | .p (.sl true es)=>(es.length=0\/0<fs.length)/\(∀ x ∈ es,x.length=te.size)/\((∀ x ∈ fs,x.length=te.size)/\(es.length+fs.length)*te.bytes<=140737488355328/\es.length+fs.length<=9223372036854775807) /\
      K (.own s.live.length e te.size (es++fs)) { s with live:=s.live++[(es++fs).length] }
    | _=>False
    else False
   | none=>False
  | _=>False
 | _,_=>False
theorem Qld(hT:TblOk P tb)(w:World){t e:Nat}(ty:TypeId){ti te:TI}(ht:tb.lookup t=some ti)(hd:ti.d = .slice e)(he:tb.lookup e=some te)(a:Option Addr)(n cap:Nat)(hn:n<=cap)(b:Option Addr)(c:Nat) :
  (Builtin.append_ #[t,t] ty #[.slice a n cap,.slice b 0 c]).run P w = .ok (.slice a n cap) w:=by
 have hu:=hT.und ht;rw[hd] at hu;have hf:(Builtin.firstCells te.size 0 (.slice b 0 c)).run P w = .ok #[] w:=by
  cases b with
  | none=>simp[Builtin.firstCells]
  | some b=>simp[Builtin.firstCells,loadCells,loadCellsFrom]
 cases a with
 | none=>simp[Builtin.append_,run_underlying hu,hT.sz he,Builtin.lenOf,hn,hf]
 | some a=>simp[Builtin.append_,run_underlying hu,hT.sz he,Builtin.lenOf,hn,hf,storeCells]
theorem Qvl(hT:TblOk P tb){G:Gh}{w:World}{s:S}(hI:Inv G s w){K:D->S->Prop}{t e:Nat}(ty:TypeId){ti te:TI}(ht:tb.lookup t=some ti)(hd:ti.d = .slice e)(he:tb.lookup e=some te)(hz:te.zero.cells.size=te.size)(hz0:0<te.size)
  {tk:Nat} {es fs:List (List V)} {full:Bool} {v:Value} {a:Option Addr} {cap:Nat} {T:Tok} (x1:VRel G.com w (.sl false es) (.slice a es.length cap)) (x2:∀ x ∈ es,x.length=te.size) (x3:G.tok[tk]? = some T) (x0:T.pro=none) (hlen:es.length=T.len) {em:Nat} (hem:Qv3 em=e) (hO:(cap=es.length\/∃ (b:Nat) (us:Array Value) (T' : Tok),a=some ⟨b,0,none⟩/\G.tok[tk]? = some T' /\ T'.blk=some b/\T'.cells=es.length*te.size/\w.heap[b]? = some (.cells us e (0,0))/\us.size=cap*te.size)) (hcl0:fs.length=0->DRel G w (.own tk em te.size es) (.slice a es.length cap)) (hy:VRel G.com w (.sl full fs) v) (hl:s.live[tk]? = some es.length) (hfs:∀ x ∈ fs,x.length=te.size)
  (hby:(es.length+fs.length)*te.bytes<=140737488355328) (hmax:es.length+fs.length<=9223372036854775807) (h:K (.own tk em te.size (es++fs)) { s with live:=s.live.set tk (es.length+fs.length) }) :
  Out P G w ((Builtin.append_ #[t,t] ty #[.slice a es.length cap,v]).run P w) K:=by
 obtain⟨a2,cap2,e2,c1,c2,-⟩:=x1.isSlice;cases e2;obtain⟨ya,yc,rfl,d1,d2,-⟩:=hy.isSlice;by_cases hm:fs.length=0
 .have hfs0:fs=[]:=List.eq_nil_of_length_eq_zero hm;have hcl1:=hcl0 hm;subst hfs0;refine⟨_,w,G,_,s,Qld hT w ty ht hd he a es.length cap c1 ya yc,.refl G w,hI,hcl1,?_⟩;have e1:s.live.set tk es.length=s.live:=List.ext_getElem? λi=>by
   by_cases hi:tk=i
   .subst hi;rw[List.getElem?_set_self (List.getElem?_eq_some_iff.1 hl).1,hl]
   .rw[List.getElem?_set_ne hi]
  simpa [e1] using h
 .obtain⟨olds,o1,o2,o3,o4⟩:=x1.flat te.size x2 hz0;obtain⟨news,n1,n2,n3,n4⟩:=hy.flat te.size hfs hz0;rcases n4 with n4 | ⟨b', off', rfl,n4⟩
  .exact absurd n4 hm
  have ha:a=none->cap=0:=λh0=>by
   cases x1 with
   | sl _ _ _ _ _ _ _ _ _ _ _ _ g5=>exact g5 h0
  obtain⟨own,hown,hT1,hT2⟩:∃ own:Option Nat,(cap=es.length\/∃ (b:Nat) (us:Array Value),a=some ⟨b,0,none⟩/\own=some b/\w.heap[b]? = some (.cells us e (0,0))/\us.size=cap*te.size) /\
    (∀ g,own=some g->T.blk=some g/\T.cells=es.length*te.size/\a=some ⟨g,0,none⟩)/\True:=by
   rcases hO with h0 | ⟨b,us,T', e1,e2,e3,e4,e5,e6⟩
   .exact⟨none,.inl h0,(λg hg=>by cases hg),trivial⟩
   .rw[x3] at e2;cases e2;exact⟨some b,.inr ⟨b,us,e1,rfl,e5,e6⟩,(λg hg=>by cases hg; exact⟨e3,e4,e1⟩),trivial⟩
  obtain⟨g,cap', w', hr,hG⟩:=Qq1 hT w ty ht hd he hz a es.length cap olds o1 (o4.imp id λ⟨b,off,q1,q2⟩=>⟨b,off,q1,λj u hj=>(q2 j u hj).1⟩) ha c1 c2 own hown b' off' fs.length yc news n1 (λj u hj=>(n4 j u hj).1) n3 (by omega) (by unfold maxLen; exact hmax) hby
  have hG2:Grown w w' e te.size (es.length+fs.length) (olds++news) g cap' T.blk:={ hG with which:=hG.which.imp id λh0=>(hT1 g h0).1 };have hcl:(olds++news).length=(es.length+fs.length)*te.size:=by rw[List.length_append,o1,n1,Nat.add_mul]
  have hne:T.blk=some g->own=some g:=λh0=>by
   rcases hG.which with h1 | h1
   .have:=(hI.tok tk T g x3 (.inl h0)).1; omega
   .exact h1
  obtain⟨s1,s2⟩:=Q2p hI x3 hG2 x0 hlen.symm (by omega) (λh0=>(hT1 g (hne h0)).2.1) hcl (λh0 j u hj hu=>by
   have h1:=(hT1 g (hne h0)).2.2;rw[List.getElem?_append_left (by rw[o1]; exact hj)] at hu;rcases o4 with o4 | ⟨b,off,q1,q2⟩
   .rw[o4] at hj; simp at hj
   .rw[q1] at h1;cases h1;have:=(q2 j u hu).1;rw[Nat.zero_add] at this; exact this)
  obtain⟨cur,r1,r2,r3⟩:=hG.row0;have hes:(es++fs).length=es.length+fs.length:=List.length_append;have hv:VRel (G.grow tk g (es.length+fs.length) te.size).com w' (.sl false (es++fs)) (.slice (some ⟨g,0,none⟩) (es++fs).length cap'):=by
   refine Qq2 g cur e (0,0) r1 (es++fs) te.size cap' (λo ho =>.inr ⟨rfl,by rw[hes] at ho; exact ho⟩) false (by rw[hes]; exact hG.fits) hG.max (λh0=>by cases h0) (λx hx=>by
    rcases List.mem_append.1 hx with h0 | h0
    .exact x2 x h0
    .exact hfs x h0) (λi k x c hx hc=>?_)
   have hcur:∀ j u,(olds++news)[j]? = some u->cur[j]? = some u:=λj u hj=>by
    rw[<-r3,List.getElem?_take] at hj;split at hj
    .simpa using hj
    .cases hj
   by_cases hi:i<es.length
   .rw[List.getElem?_append_left hi] at hx;obtain⟨u,hu,hvu⟩:=o2 i k x c hx hc;refine⟨u,hcur _ u ?_,o3 u (List.mem_of_getElem? hu),hvu.mono s1.ext.size s1.ext.com⟩;rw[List.getElem?_append_left (List.getElem?_eq_some_iff.1 hu).1]; exact hu
   .rw[List.getElem?_append_right (by omega)] at hx;obtain⟨u,hu,hvu⟩:=n2 (i-es.length) k x c hx hc;refine⟨u,hcur _ u ?_,n3 u (List.mem_of_getElem? hu),hvu.mono s1.ext.size s1.ext.com⟩;have e1:i*te.size+k=olds.length+((i-es.length)*te.size+k):=by
     rw[o1,<-Nat.add_assoc,<-Nat.add_mul]; congr 2; omega
    rw[e1,List.getElem?_append_right (by omega),Nat.add_sub_cancel_left]; exact hu
  have hset:(G.grow tk g (es.length+fs.length) te.size).tok[tk]? = some ⟨es.length+fs.length,some g,(es.length+fs.length)*te.size,none⟩:=List.getElem?_set_self (List.getElem?_eq_some_iff.1 x3).1;refine⟨_,w', _,_,_,hr,s1,s2,?_,h⟩;rw[hes] at hv;refine .own tk em te.size (es++fs) _ _ hv (λx hx=>?_) hset rfl (by rw[hes]; exact Nat.le_refl _) (λ_=>?_)
  .rcases List.mem_append.1 hx with h0 | h0
   .exact x2 x h0
   .exact hfs x h0
  .rw[hes];exact⟨_,cap', rfl,.inr (.inl ⟨g,cur,_,rfl,hset,rfl,rfl,by rw[hem]; exact .of r1,r2⟩)⟩
theorem Qaio(hT:TblOk P tb){G:Gh}{w:World}{s:S}(hI:Inv G s w){K:D->S->Prop}{t e:Nat}(ty:TypeId){ti te:TI}(ht:tb.lookup t=some ti)(hd:ti.d = .slice e)(he:tb.lookup e=some te)(hz:te.zero.cells.size=te.size)(hz0:0<te.size)
  {tk:Nat} {es fs:List (List V)} {full:Bool} {u v:Value} {em:Nat} (hem:Qv3 em=e) (hm2:em<2000000) (hx:DRel G w (.own tk em te.size es) u) (hy:VRel G.com w (.sl full fs) v) (hl:s.live[tk]? = some es.length) (hfs:∀ x ∈ fs,x.length=te.size)
  (hby:(es.length+fs.length)*te.bytes<=140737488355328) (hmax:es.length+fs.length<=9223372036854775807) (h:K (.own tk em te.size (es++fs)) { s with live:=s.live.set tk (es.length+fs.length) }) :
  Out P G w ((Builtin.append_ #[t,t] ty #[u,v]).run P w) K:=by
 cases hx with
 | own _ _ _ _ u T x1 x2 x3 x0 x4 x5 =>
  have hlen:es.length=T.len:=by
   have:(G.tok.map (·.len))[tk]? = some T.len:=by rw[List.getElem?_map,x3]; rfl
   rw[hI.live,hl] at this;exact Option.some.inj this
  obtain⟨a,cap,rfl,hO⟩:=x5 hlen;obtain⟨a2,cap2,e2,c1,-⟩:=x1.isSlice;cases e2;exact Qvl hT hI ty ht hd he hz hz0 x1 x2 x3 x0 hlen hem (hO.elim (λh0 =>.inl (by omega)) λh=>h.elim (λ⟨b,us,T', h1,h2,h3,h4,h5,h6⟩ =>.inr ⟨b,us,T', h1,h2,h3,h4,by have h5:=h5.lt hm2; rw[hem] at h5; exact h5,h6⟩) λh =>.inl h.2) (λ_ =>.own tk em te.size es _ T x1 x2 x3 x0 x4 x5) hy hl hfs hby hmax h
theorem Qab4(hT:TblOk P tb){G:Gh}{w:World}{s:S}(hI:Inv G s w){K:D->S->Prop}{t:Nat}(ty:TypeId){x y:D}{u v:Value}(hx:DRel G w x u)(hy:DRel G w y v)(h:aApp tb t x y s K) :
  Out P G w ((Builtin.append_ #[t,t] ty #[u,v]).run P w) K:=by
 unfold aApp at h;split at h
 .rename_i ti full fs ht hyu;have hy:=Qfe hy hyu;split at h
  .rename_i e hd;split at h
   .rename_i te he;split at h
    .rename_i hz;split at h
     .rename_i tk e' sz es;split at h
      .rename_i he';obtain⟨hem,rfl⟩:=he';have hm2:e' < 2000000:=hem.elim (λh=>by subst h; exact Nat.lt_trans hz.2.2 (by decide)) λh=>by subst h; exact Nat.add_lt_add_right hz.2.2 1000000
       have hem:Qv3 e' = e:=hem.elim (λh=>by subst h; exact Qqz hz.2.2) λh=>by subst h; exact Q5e hz.2.2
       obtain⟨h1,⟨h2,h3,h4⟩,h5⟩:=h;rw[List.length_append] at h5;exact Qaio hT hI ty ht hd he hz.1 hz.2.1 hem hm2 hx hy h1 h2 h3 h4 h5
      .exact h.elim
     .rename_i es;obtain⟨h6,h1,⟨h2,h3,h4⟩,h5⟩:=h;rw[List.length_append] at h5;cases hx with
      | p _ u hx =>
       obtain⟨a,cap,rfl,c1,c2,c3,c4⟩:=hx.isSlice;obtain⟨s1,s2⟩:=Qk3 hI es.length;have hx' : VRel G.com w (.sl false es) (.slice a es.length cap):=by
        cases hx with
        | sl _ _ _ _ size b off us g1 g2 g3 g4 g5 g6 g7 g8=>exact .sl false es a cap size b off us g1 g2 (λh=>by cases h) g4 g5 g6 g7 (λh=>by cases h)
       have hlive:G.tok.length=s.live.length:=by rw[<-hI.live]; simp
       have htok:(G.tok++[(⟨es.length,none,0,none⟩:Tok)])[s.live.length]? = some ⟨es.length,none,0,none⟩:=by rw[<-hlive]; exact List.getElem?_concat_length
       have hd' : es.length=0->DRel { G with tok:=G.tok++[⟨es.length,none,0,none⟩] } w (.own s.live.length e te.size es) (.slice a es.length cap):=λh0 =>
        .own _ _ _ _ _ ⟨es.length,none,0,none⟩ hx' h1 htok rfl (Nat.le_refl _) (λ_=>⟨a,cap,rfl,.inl ⟨by rw[c3 rfl]; exact h0,c4 rfl⟩⟩)
       obtain⟨r,w', G', d,s', r1,r2,r3,r4,r5⟩:=Qvl (K:=K) (T:=⟨es.length,none,0,none⟩) hT s2 ty ht hd he hz.1 hz.2.1 hx' h1 htok rfl rfl (Qqz hz.2.2) (.inl (c3 rfl)) (λh0=>hd' (h6.elim id λh7=>by omega)) (hy.mono s1.ext.size s1.ext.com) List.getElem?_concat_length h2 h3 h4 (by
        have e1:(s.live++[es.length]).set s.live.length (es.length+fs.length)=s.live++[es.length+fs.length]:=by simp
        simpa only[e1] using h5)
       exact⟨r,w', G', d,s', r1,s1.trans r2,r3,r4,r5⟩
     .exact h.elim
    .exact h.elim
   .exact h.elim
  .exact h.elim
 .exact h.elim
theorem Qsf(hT:TblOk P tb)(w:World){t t' e:Nat}(ty:TypeId){ti te:TI}(ht:tb.lookup t=some ti)(hd:ti.d = .slice e)(hus:P.underlying t' = some .string)(he:tb.lookup e=some te)(a:Option Addr)(n cap:Nat)(hn:n<=cap)(z:ByteArray)(hz:z.size=0) :
  (Builtin.append_ #[t,t'] ty #[.slice a n cap,.string z]).run P w = .ok (.slice a n cap) w:=by
 have hu:=hT.und ht;rw[hd] at hu;have hf:(Builtin.firstCells te.size 0 (.string z)).run P w = .ok #[] w:=by
  have:=Lib.run_firstCells_string (P:=P) w te.size z;rw[hz] at this;rw[this];have h0:Lib.strCells z=[]:=List.eq_nil_of_length_eq_zero (by rw[Lib.strCells_length]; exact hz);rw[h0]
 cases a with
 | none=>simp[Builtin.append_,run_underlying hu,run_underlying hus,hT.sz he,Builtin.lenOf,hz,hn,hf]
 | some a=>simp[Builtin.append_,run_underlying hu,run_underlying hus,hT.sz he,Builtin.lenOf,hz,hn,hf,storeCells]
theorem Ql5(P:Program)(g o:Nat)(t:TypeId)(fz:Nat×Nat):∀ (vs:List Value) (i:Nat) (cur:Array Value) (w:World),w.heap[g]? = some (.cells cur t fz)->(fz.2=0\/o+i+vs.length<=fz.1)->o+i+vs.length<=cur.size->(∀ v ∈ vs,v.oneCell' = true) ->
  (storeCells ⟨g,o,none⟩ vs i).run P w = .ok () (w.setRow g (cur.toList.take (o+i)++vs++cur.toList.drop (o+i+vs.length)).toArray)
 | [],i,cur,w,hg,_,_,_=>by
  simp only[storeCells,List.append_nil,List.length_nil,Nat.add_zero,List.take_append_drop,Array.toArray_toList];rw[setRow_self w g cur t fz hg];rfl
 | v::rest,i,cur,w,hg,hfz,hl,h1=>by
  have hi:o+i<cur.size:=by simp at hl; omega
  have hadd:(⟨g,o,none⟩:Addr).add i=⟨g,o+i,none⟩:=by unfold Addr.add; split<;>simp_all
  have hcell:w.cell? ⟨g,o+i,none⟩=some cur[o+i]:=by simp[World.cell?,hg,hi]
  have hfro:w.frozen? ⟨g,o+i,none⟩=false:=by
   obtain⟨lo,hi'⟩:=fz;simp only[World.frozen?,hg,Bool.and_eq_false_iff,decide_eq_false_iff_not];simp only[List.length_cons] at hfz;rcases hfz with hfz | hfz
   .right; omega
   .left; omega
  have hst:(store ((⟨g,o,none⟩:Addr).add i) v).run P w = .ok () (w.setRow g (cur.setIfInBounds (o+i) v)):=by
   rw[hadd,run_store P w _ v _ (h1 v (by simp)),hcell];simp[hfro,setCell_eq_setRow w g (o+i) cur t fz v hg]
  have ih:=Ql5 P g o t fz rest (i+1) (cur.setIfInBounds (o+i) v) (w.setRow g (cur.setIfInBounds (o+i) v)) (setRow_heap w g cur _ t _ hg) (hfz.imp id λh=>by simp only[List.length_cons] at h; omega) (by simp at hl ⊢; omega) (λx hx=>h1 x (by simp[hx]));simp only[storeCells,Sem.run_bind,hst,Result.andThen_ok,ih,setRow_setRow];congr 3;have e:=list_seg_step cur.toList (o+i) v rest (by simp at hl ⊢; omega);simpa [Array.toList_setIfInBounds,Nat.add_assoc] using e
theorem Qn3(w:World)(t u ty e:TypeId)(i:TypeInfo)(ht:P.underlying t=some (.slice e))(hu:P.underlying u=some .string)(hi:P.info? e=some i)(hs1:i.size=1)
  (g sLen sCap:Nat) (cur:Array Value) (fz:Nat×Nat) (hg:w.heap[g]? = some (.cells cur e fz)) (hfz:fz.2=0\/cur.size<=fz.1) (s:ByteArray)
  (hroom:sLen+s.size<=sCap) (hfit:sLen+s.size<=cur.size) :
  (Builtin.append_ #[t,u] ty #[.slice (some ⟨g,0,none⟩) sLen sCap,.string s]).run P w =
   .ok (.slice (some ⟨g,0,none⟩) (sLen+s.size) sCap) (w.setRow g (cur.toList.take sLen++Lib.strCells s++cur.toList.drop (sLen+s.size)).toArray):=by
 have hf:=Lib.run_firstCells_string (P:=P) w 1 s;have hst:=Ql5 P g sLen e fz (Lib.strCells s) 0 cur w hg (hfz.imp id λh=>by rw[Lib.strCells_length]; omega) (by simpa [Lib.strCells_length] using hfit) (Lib.strCells_oneCell s);simp only[Nat.add_zero,Lib.strCells_length] at hst;simp[Builtin.append_,run_underlying ht,run_underlying hu,sizeOf,typeInfo,hi,hs1,Builtin.lenOf,hroom,hf,Addr.add_lit,hst]
theorem Qzy(hT:TblOk P tb)(w:World){t t' e:Nat}(ty:TypeId){ti te:TI}(ht:tb.lookup t=some ti)(hd:ti.d = .slice e)(hus:P.underlying t' = some .string)(he:tb.lookup e=some te)(hz:te.zero.cells.size=te.size)(hs1:te.size=1)
  (a:Option Addr) (n cap:Nat) (olds:List Value) (hol:olds.length=n*te.size) (hold:n=0\/∃ b off,a=some ⟨b,off,none⟩/\∀ (j:Nat) u,olds[j]? = some u->w.cell? ⟨b,off+j,none⟩=some u)
  (ha:a=none->cap=0) (hncap:n<=cap) (hcap:cap<=maxLen)
  (own:Option Nat) {bz:Bool} (hown:cap=n\/∃ (b:Nat) (us:Array Value),a=some ⟨b,0,none⟩/\own=some b/\RowFz bz w b us e/\us.size=cap*te.size)
  (z:ByteArray) (hm:0<z.size) (hmax:n+z.size<=maxLen) (hbytes:(n+z.size)*te.bytes<=140737488355328) :
  ∃ g cap' w', (Builtin.append_ #[t,t'] ty #[.slice a n cap,.string z]).run P w = .ok (.slice (some ⟨g,0,none⟩) (n+z.size) cap') w' /\ Grown w w' e te.size (n+z.size) (olds++Lib.strCells z) g cap' own bz:=by
 obtain⟨_,i,i1,i2,i3,i4,_⟩:=hT e te he;have hu:=hT.und ht;rw[hd] at hu;have hnl:(Lib.strCells z).length=z.size*te.size:=by rw[Lib.strCells_length,hs1,Nat.mul_one]
 have h63:((n+z.size:Nat):Int)<=9223372036854775807:=by unfold maxLen at hmax; omega
 by_cases hroom:n+z.size<=cap
 .rcases hown with hc | ⟨b,us,rfl,rfl,⟨fr,hb,hfr⟩,hus2⟩
  .omega
  .have hus3:us.size=cap:=by rw[hus2,hs1,Nat.mul_one]
   have hr:=Qn3 (P:=P) w t t' ty e i hu hus i1 (by rw[i2]; exact hs1) b n cap us fr hb (hfr.elim (λh =>.inl (by rw[h])) λh =>.inr (by rw[h.2]; exact Nat.le_refl _)) z hroom (by omega);have hol2:us.toList.take (n*te.size)=olds:=by
    apply List.ext_getElem?;intro j;rw[List.getElem?_take];split
    .rename_i hj;rcases hold with h0 | ⟨b2,off2,h2,h3⟩
     .subst h0; simp at hj
     .cases h2;have hj2:j<olds.length:=by omega
      have:=h3 j olds[j] (List.getElem?_eq_getElem hj2);rw[cell_of_row w b _ us e fr hb,Nat.zero_add] at this;rw[List.getElem?_eq_getElem hj2,<-this]; simp
    .rename_i hj;rw[List.getElem?_eq_none (by omega)]
   rw[hs1,Nat.mul_one] at hol2;refine⟨b,cap,_,hr,rfl,rfl,rfl,by simp[World.setRow],⟨_,⟨fr,setRow_heap w b us _ e _ hb,?_⟩,?_,?_⟩,hroom,hcap,λk _ hk=>setRow_other w b k _ hk,.inr rfl,Qq0 hb ?_⟩
   rotate_right
   .simp only[List.size_toArray,List.length_append,List.length_take,List.length_drop,Array.length_toList,Lib.strCells_length]; rw[hus2,hs1]; omega
   .refine hfr.imp id λh=>⟨h.1,?_⟩
    have hz2:(us.toList.take n++Lib.strCells z++us.toList.drop (n+z.size)).toArray.size=us.size:=by
     simp only[List.size_toArray,List.length_append,List.length_take,List.length_drop,Array.length_toList,Lib.strCells_length]; omega
    rw[hz2]; exact h.2
   .rw[hs1,Nat.mul_one] at hus2 ⊢;simp only[List.size_toArray,List.length_append,List.length_take,List.length_drop,Array.length_toList,Lib.strCells_length];omega
   .rw[hol2];rw[show(n+z.size)*te.size=(olds++Lib.strCells z).length by rw[List.length_append,hol,hnl,Nat.add_mul]];exact List.take_left
 .have hfits:=growslice_fits (need:=n+z.size) (old:=cap) (bytes:=i.bytes) (by omega) (by rw[i3]; exact hbytes);cases a with
  | none =>
   have hc0:=ha rfl;have hn0:n=0:=by omega
   subst hn0; subst hc0;have hol0:olds=[]:=List.eq_nil_of_length_eq_zero (by simpa using hol);subst hol0;have hr:=run_append_nil_string (P:=P) w t t' ty e i te.zero hu hus i1 i4 z hm (by unfold maxLen at hmax; omega) (by rw[i3]; rw[Nat.zero_add] at hbytes; omega);have hg:=Qww w e te.size 0 z.size 0 te.zero hz [] (Lib.strCells z) (by simp) hnl hmax own (bz:=bz);have hsc:z.data.map (λb=>Value.int .u8 b.toNat)=(Lib.strCells z).toArray:=by
    unfold Lib.strCells;apply Array.ext';simp
   rw[hsc] at hr;simp only[Nat.zero_add,List.nil_append,Array.empty_append] at hg ⊢;exact⟨_,_,_,hr,hg⟩
  | some ad =>
   have holds:∀ (j:Nat) v,olds[j]? = some v->w.cell? (ad.add j)=some v:=λj v hj=>by
    rcases hold with h0 | ⟨b2,off2,h2,h3⟩
    .subst h0;have:olds=[]:=List.eq_nil_of_length_eq_zero (by simpa using hol);subst this; simp at hj
    .cases h2; rw[Qrj]; exact h3 j v hj
   have hr:=Lib.run_append_grow_string (P:=P) w t t' ty e i te.zero hu hus i1 i4 ad n cap olds (by rw[i2]; exact hol) holds z (by omega) h63 hfits;exact⟨_,_,_,hr,Qww w e te.size n z.size cap te.zero hz olds (Lib.strCells z) hol hnl hmax own⟩
theorem Qox(hT:TblOk P tb){G:Gh}{w:World}{s:S}(hI:Inv G s w){K:D->S->Prop}{t t' e:Nat}(ty:TypeId){ti te:TI}(ht:tb.lookup t=some ti)(hd:ti.d = .slice e)(hus:P.underlying t' = some .string)(hs1:te.size=1)(he:tb.lookup e=some te)(hz:te.zero.cells.size=te.size)(hz0:0<te.size)
  {tk:Nat} {es fs:List (List V)} {z:ByteArray} (hfz:fs=(Qau z).map Qf4) {a:Option Addr} {cap:Nat} {T:Tok} (x1:VRel G.com w (.sl false es) (.slice a es.length cap)) (x2:∀ x ∈ es,x.length=te.size) (x3:G.tok[tk]? = some T) (x0:T.pro=none) (hlen:es.length=T.len) {em:Nat} (hem:Qv3 em=e) (hO:(cap=es.length\/∃ (b:Nat) (us:Array Value) (T' : Tok),a=some ⟨b,0,none⟩/\G.tok[tk]? = some T' /\ T'.blk=some b/\T'.cells=es.length*te.size/\RowFz (decide (2000000<=em)) w b us e/\us.size=cap*te.size)) (hcl0:fs.length=0->DRel G w (.own tk em te.size es) (.slice a es.length cap)) (hl:s.live[tk]? = some es.length)
  (hby:(es.length+fs.length)*te.bytes<=140737488355328) (hmax:es.length+fs.length<=9223372036854775807) (h:K (.own tk em te.size (es++fs)) { s with live:=s.live.set tk (es.length+fs.length) }) :
  Out P G w ((Builtin.append_ #[t,t'] ty #[.slice a es.length cap,.string z]).run P w) K:=by
 have hflen:fs.length=z.size:=by rw[hfz,List.length_map]; rfl
 have hfs:∀ x ∈ fs,x.length=te.size:=λx hx=>by
  rw[hfz] at hx;obtain⟨c,-,rfl⟩:=List.mem_map.1 hx;rw[hs1]; rfl
 obtain⟨a2,cap2,e2,c1,c2,-⟩:=x1.isSlice;cases e2;by_cases hm:fs.length=0
 .have hfs0:fs=[]:=List.eq_nil_of_length_eq_zero hm;have hcl1:=hcl0 hm;subst hfs0;refine⟨_,w,G,_,s,Qsf hT w ty ht hd hus he a es.length cap c1 z (by rw[<-hflen]; exact hm),.refl G w,hI,hcl1,?_⟩;have e1:s.live.set tk es.length=s.live:=List.ext_getElem? λi=>by
   by_cases hi:tk=i
   .subst hi;rw[List.getElem?_set_self (List.getElem?_eq_some_iff.1 hl).1,hl]
   .rw[List.getElem?_set_ne hi]
  simpa [e1] using h
 .obtain⟨olds,o1,o2,o3,o4⟩:=x1.flat te.size x2 hz0;obtain⟨news,hnews⟩:∃ news,news=Lib.strCells z:=⟨_,rfl⟩;have n1:news.length=fs.length*te.size:=by rw[hnews,Lib.strCells_length,hflen,hs1,Nat.mul_one]
  have n3:∀ u ∈ news,u.oneCell' = true:=by rw[hnews]; exact Lib.strCells_oneCell z
  have n2:∀ (i k:Nat) x c,fs[i]? = some x->x[k]? = some c->∃ u,news[i*te.size+k]? = some u/\VRel G.com w c u:=λi k x c hx hc=>by
   rw[hfz,List.getElem?_map] at hx;obtain⟨y,hy,rfl⟩:=Option.map_eq_some_iff.1 hx;have hk:k=0:=by have:=(List.getElem?_eq_some_iff.1 hc).1; simpa [Qf4] using this
   subst hk;have hcv:c = .v (.int .u8 y.toNat):=by simpa [Qf4] using hc.symm
   subst hcv;refine⟨.int .u8 y.toNat,?_,.v _ rfl⟩;rw[hnews,hs1,Nat.mul_one,Nat.add_zero];unfold Lib.strCells;unfold Qau at hy;simp only[List.getElem?_map,hy,Option.map_some]
  have ha:a=none->cap=0:=λh0=>by
   cases x1 with
   | sl _ _ _ _ _ _ _ _ _ _ _ _ g5=>exact g5 h0
  obtain⟨own,hown,hT1,hT2⟩:∃ own:Option Nat,(cap=es.length\/∃ (b:Nat) (us:Array Value),a=some ⟨b,0,none⟩/\own=some b/\RowFz (decide (2000000<=em)) w b us e/\us.size=cap*te.size) /\
    (∀ g,own=some g->T.blk=some g/\T.cells=es.length*te.size/\a=some ⟨g,0,none⟩)/\True:=by
   rcases hO with h0 | ⟨b,us,T', e1,e2,e3,e4,e5,e6⟩
   .exact⟨none,.inl h0,(λg hg=>by cases hg),trivial⟩
   .rw[x3] at e2;cases e2;exact⟨some b,.inr ⟨b,us,e1,rfl,e5,e6⟩,(λg hg=>by cases hg; exact⟨e3,e4,e1⟩),trivial⟩
  obtain⟨g,cap', w', hr,hG⟩:=Qzy hT w ty ht hd hus he hz hs1 a es.length cap olds o1 (o4.imp id λ⟨b,off,q1,q2⟩=>⟨b,off,q1,λj u hj=>(q2 j u hj).1⟩) ha c1 c2 own hown z (by rw[<-hflen]; omega) (by rw[<-hflen]; unfold maxLen; exact hmax) (by rw[<-hflen]; exact hby);rw[<-hflen,<-hnews] at hG;rw[<-hflen] at hr;have hG2:Grown w w' e te.size (es.length+fs.length) (olds++news) g cap' T.blk (decide (2000000<=em)):={ hG with which:=hG.which.imp id λh0=>(hT1 g h0).1 };have hcl:(olds++news).length=(es.length+fs.length)*te.size:=by rw[List.length_append,o1,n1,Nat.add_mul]
  have hne:T.blk=some g->own=some g:=λh0=>by
   rcases hG.which with h1 | h1
   .have:=(hI.tok tk T g x3 (.inl h0)).1; omega
   .exact h1
  obtain⟨s1,s2⟩:=Q2p hI x3 hG2 x0 hlen.symm (by omega) (λh0=>(hT1 g (hne h0)).2.1) hcl (λh0 j u hj hu=>by
   have h1:=(hT1 g (hne h0)).2.2;rw[List.getElem?_append_left (by rw[o1]; exact hj)] at hu;rcases o4 with o4 | ⟨b,off,q1,q2⟩
   .rw[o4] at hj; simp at hj
   .rw[q1] at h1;cases h1;have:=(q2 j u hu).1;rw[Nat.zero_add] at this; exact this)
  obtain⟨cur,rz,r2,r3⟩:=hG.row;obtain⟨fr,r1,rf⟩:=id rz;have hes:(es++fs).length=es.length+fs.length:=List.length_append;have hv:VRel (G.grow tk g (es.length+fs.length) te.size).com w' (.sl false (es++fs)) (.slice (some ⟨g,0,none⟩) (es++fs).length cap'):=by
   refine Qq2 g cur e fr r1 (es++fs) te.size cap' (λo ho =>.inr ⟨rfl,by rw[hes] at ho; exact ho⟩) false (by rw[hes]; exact hG.fits) hG.max (λh0=>by cases h0) (λx hx=>by
    rcases List.mem_append.1 hx with h0 | h0
    .exact x2 x h0
    .exact hfs x h0) (λi k x c hx hc=>?_)
   have hcur:∀ j u,(olds++news)[j]? = some u->cur[j]? = some u:=λj u hj=>by
    rw[<-r3,List.getElem?_take] at hj;split at hj
    .simpa using hj
    .cases hj
   by_cases hi:i<es.length
   .rw[List.getElem?_append_left hi] at hx;obtain⟨u,hu,hvu⟩:=o2 i k x c hx hc;refine⟨u,hcur _ u ?_,o3 u (List.mem_of_getElem? hu),hvu.mono s1.ext.size s1.ext.com⟩;rw[List.getElem?_append_left (List.getElem?_eq_some_iff.1 hu).1]; exact hu
   .rw[List.getElem?_append_right (by omega)] at hx;obtain⟨u,hu,hvu⟩:=n2 (i-es.length) k x c hx hc;refine⟨u,hcur _ u ?_,n3 u (List.mem_of_getElem? hu),hvu.mono s1.ext.size s1.ext.com⟩;have e1:i*te.size+k=olds.length+((i-es.length)*te.size+k):=by
     rw[o1,<-Nat.add_assoc,<-Nat.add_mul]; congr 2; omega
    rw[e1,List.getElem?_append_right (by omega),Nat.add_sub_cancel_left]; exact hu
  have hset:(G.grow tk g (es.length+fs.length) te.size).tok[tk]? = some ⟨es.length+fs.length,some g,(es.length+fs.length)*te.size,none⟩:=List.getElem?_set_self (List.getElem?_eq_some_iff.1 x3).1;refine⟨_,w', _,_,_,hr,s1,s2,?_,h⟩;rw[hes] at hv;refine .own tk em te.size (es++fs) _ _ hv (λx hx=>?_) hset rfl (by rw[hes]; exact Nat.le_refl _) (λ_=>?_)
  .rcases List.mem_append.1 hx with h0 | h0
   .exact x2 x h0
   .exact hfs x h0
  .rw[hes];exact⟨_,cap', rfl,.inr (.inl ⟨g,cur,_,rfl,hset,rfl,rfl,by rw[hem]; exact rz,r2⟩)⟩
theorem Q8f(hT:TblOk P tb){G:Gh}{w:World}{s:S}(hI:Inv G s w){K:D->S->Prop}{t t' e:Nat}(ty:TypeId){ti te:TI}(ht:tb.lookup t=some ti)(hd:ti.d = .slice e)(hus:P.underlying t' = some .string)(hs1:te.size=1)(he:tb.lookup e=some te)(hz:te.zero.cells.size=te.size)(hz0:0<te.size)
  {tk:Nat} {es fs:List (List V)} {u:Value} {z:ByteArray} (hfz:fs=(Qau z).map Qf4) {em:Nat} (hem:Qv3 em=e) (hx:DRel G w (.own tk em te.size es) u) (hl:s.live[tk]? = some es.length)
  (hby:(es.length+fs.length)*te.bytes<=140737488355328) (hmax:es.length+fs.length<=9223372036854775807) (h:K (.own tk em te.size (es++fs)) { s with live:=s.live.set tk (es.length+fs.length) }) :
  Out P G w ((Builtin.append_ #[t,t'] ty #[u,.string z]).run P w) K:=by
 have hflen:fs.length=z.size:=by rw[hfz,List.length_map]; rfl
 have hfs:∀ x ∈ fs,x.length=te.size:=λx hx=>by
  rw[hfz] at hx;obtain⟨c,-,rfl⟩:=List.mem_map.1 hx;rw[hs1]; rfl
 cases hx with
 | own _ _ _ _ u T x1 x2 x3 x0 x4 x5 =>
  have hlen:es.length=T.len:=by
   have:(G.tok.map (·.len))[tk]? = some T.len:=by rw[List.getElem?_map,x3]; rfl
   rw[hI.live,hl] at this;exact Option.some.inj this
  obtain⟨a,cap,rfl,hO⟩:=x5 hlen;obtain⟨a2,cap2,e2,c1,-⟩:=x1.isSlice;cases e2;exact Qox hT hI ty ht hd hus hs1 he hz hz0 hfz x1 x2 x3 x0 hlen hem (hO.elim (λh0 =>.inl (by omega)) λh=>h.elim (λ⟨b,us,T', h1,h2,h3,h4,h5,h6⟩ =>.inr ⟨b,us,T', h1,h2,h3,h4,by rw[hem] at h5; exact h5,h6⟩) λh =>.inl h.2) (λ_ =>.own tk em te.size es _ T x1 x2 x3 x0 x4 x5) hl hby hmax h
def Qadr(tb:Tbl)(t t' : Nat)(x y:D)(s:S)(K:D->S->Prop):Prop :=
 match tb.lookup t,tb.lookup t', y with
 | some ti,some tu,.p (.v (.string z))=>match ti.d,tu.d with
  | .slice e,.string=>match tb.lookup e with
   | some te=>if te.zero.cells.size=te.size/\te.size=1/\e<1000000 then
    match x with
    | .own tk e' sz es=>if(e' = e\/e' = e+1000000\/e' = e+2000000)/\sz=te.size then s.live[tk]? = some es.length/\((es.length+(Qau z).length)*te.bytes<=140737488355328/\es.length+(Qau z).length<=9223372036854775807) /\
      K (.own tk e' te.size (es++(Qau z).map Qf4)) { s with live:=s.live.set tk (es++(Qau z).map Qf4).length } else False
    | .p (.sl true es)=>(es.length=0\/0<(Qau z).length)/\(∀ x ∈ es,x.length=te.size)/\((es.length+(Qau z).length)*te.bytes<=140737488355328/\es.length+(Qau z).length<=9223372036854775807) /\
      K (.own s.live.length e te.size (es++(Qau z).map Qf4)) { s with live:=s.live++[(es++(Qau z).map Qf4).length] }
    | _=>False
    else False
   | none=>False
  | _,_=>False
 | _,_,_=>False
theorem Q8g(hT:TblOk P tb){G:Gh}{w:World}{s:S}(hI:Inv G s w){K:D->S->Prop}{t t' : Nat}(ty:TypeId){x y:D}{u v:Value}(hx:DRel G w x u)(hy:DRel G w y v)(h:Qadr tb t t' x y s K) :
  Out P G w ((Builtin.append_ #[t,t'] ty #[u,v]).run P w) K:=by
 unfold Qadr at h;split at h
 .rename_i ti tu z ht htu;have hv:v = .string z:=by cases hy with | p _ _ h=>cases h; rfl
  subst hv;have hb:((Qau z).map Qf4).length=(Qau z).length:=List.length_map _;split at h
  .rename_i e hd hdu;have hus:=hT.und htu;rw[hdu] at hus;split at h
   .rename_i te he;split at h
    .rename_i hz;split at h
     .rename_i tk e' sz es;split at h
      .rename_i he';obtain⟨hem,rfl⟩:=he';have hem:Qv3 e' = e:=hem.elim (λh=>by subst h; exact Qqz hz.2.2) λh=>h.elim (λh=>by subst h; exact Q5e hz.2.2) λh=>by subst h; exact Q1i e
       obtain⟨h1,⟨h3,h4⟩,h5⟩:=h;rw[List.length_append] at h5;exact Q8f hT hI ty ht hd hus hz.2.1 he hz.1 (by omega) rfl hem hx h1 (by rw[hb]; exact h3) (by rw[hb]; exact h4) h5
      .exact h.elim
     .rename_i es;obtain⟨h6,h1,⟨h3,h4⟩,h5⟩:=h;rw[List.length_append] at h5;cases hx with
      | p _ u hx =>
       obtain⟨a,cap,rfl,c1,c2,c3,c4⟩:=hx.isSlice;obtain⟨s1,s2⟩:=Qk3 hI es.length;have hx' : VRel G.com w (.sl false es) (.slice a es.length cap):=by
        cases hx with
        | sl _ _ _ _ size b off us g1 g2 g3 g4 g5 g6 g7 g8=>exact .sl false es a cap size b off us g1 g2 (λh=>by cases h) g4 g5 g6 g7 (λh=>by cases h)
       have hlive:G.tok.length=s.live.length:=by rw[<-hI.live]; simp
       have htok:(G.tok++[(⟨es.length,none,0,none⟩:Tok)])[s.live.length]? = some ⟨es.length,none,0,none⟩:=by rw[<-hlive]; exact List.getElem?_concat_length
       have hd' : es.length=0->DRel { G with tok:=G.tok++[⟨es.length,none,0,none⟩] } w (.own s.live.length e te.size es) (.slice a es.length cap):=λh0 =>
        .own _ _ _ _ _ ⟨es.length,none,0,none⟩ hx' h1 htok rfl (Nat.le_refl _) (λ_=>⟨a,cap,rfl,.inl ⟨by rw[c3 rfl]; exact h0,c4 rfl⟩⟩)
       obtain⟨r,w', G', d,s', r1,r2,r3,r4,r5⟩:=Qox (K:=K) (T:=⟨es.length,none,0,none⟩) hT s2 ty ht hd hus hz.2.1 he hz.1 (by omega) rfl hx' h1 htok rfl rfl (Qqz hz.2.2) (.inl (c3 rfl)) (λh0=>hd' (h6.elim id λh7=>by rw[hb] at h0; omega)) List.getElem?_concat_length (by rw[hb]; exact h3) (by rw[hb]; exact h4) (by
        have e1:(s.live++[es.length]).set s.live.length (es.length+((Qau z).map Qf4).length)=s.live++[es.length+((Qau z).map Qf4).length]:=by simp
        simpa only[e1] using h5)
       exact⟨r,w', G', d,s', r1,s1.trans r2,r3,r4,r5⟩
     .exact h.elim
    .exact h.elim
   .exact h.elim
  .exact h.elim
 .exact h.elim
def Qm7(tb:Tbl)(t:Nat)(l c:D)(s:S)(K:D->S->Prop):Prop :=
 match tb.lookup t,l,c with
 | some ti,.p (.v (.int _ n)),.p (.v (.int _ m))=>match ti.d with
  | .slice e=>match tb.lookup e with
   | some te=>match absV te.zero with
    | some x=>match (Ql3 (.p x)).bind unps with
     | some zs=>(zs.length=te.size/\0<te.size)/\(0<=n/\m=n/\n*te.bytes<=140737488355328/\n<=9223372036854775807)/\K (.p (.sl true (List.replicate n.toNat zs))) s
     | none=>False
    | none=>False
   | none=>False
  | _=>False
 | _,_,_=>False
theorem Qv6(hT:TblOk P tb){G:Gh}{w:World}{s:S}(hI:Inv G s w){K:D->S->Prop}{t:Nat}{l c:D}{u v:Value}(hl:DRel G w l u)(hc:DRel G w c v)(h:Qm7 tb t l c s K) :
  Out P G w ((Instr.makeSlice t u v).run P w) K:=by
 unfold Qm7 at h;split at h
 .rename_i ti k n k' m ht;have e1:u = .int k n:=by cases hl with | p _ _ h=>cases h; rfl
  have e2:v = .int k' m:=by cases hc with | p _ _ h=>cases h; rfl
  subst e1; subst e2;split at h
  .rename_i e hd;split at h
   .rename_i te he;split at h
    .rename_i x hx;split at h
     .rename_i zs hzs;obtain⟨⟨z1,z2⟩,⟨h1,h2,h3,h4⟩,hK⟩:=h;subst h2;obtain⟨z,hz,hzu⟩:=Option.bind_eq_some_iff.1 hzs;have hu:=hT.und ht;rw[hd] at hu;obtain⟨_,i,i1,i2,i3,i4,_⟩:=hT e te he;have hzr:CellsRel G w z te.zero.cells:=Qdz (.p x _ (Ql4 hx)) hz;obtain⟨q1,q2⟩:=Qhm (G:=G) (w:=w) z zs hzu;have hzsz:te.zero.cells.size=te.size:=by rw[hzr.1,<-q1]; exact z1
      obtain⟨N,rfl⟩:∃ N:Nat,m=(N:Int):=⟨m.toNat,by omega⟩;have hr:=run_make (P:=P) w t e i te.zero hu i1 i4 k k' (N:Int) (N:Int) h1 (Int.le_refl _) (by rw[i3,Int.mul_comm]; omega) h4;rw[Int.toNat_natCast,i2] at hr;obtain⟨s1,s2⟩:=Quv hI (madeCells te.zero.cells (N*te.size)) e;have hrow:VRel (G.with w.heap.size).com (w.alloc (.cells (madeCells te.zero.cells (N*te.size)) e)) (.sl true (List.replicate N zs)) (.slice (some ⟨w.heap.size,0,none⟩) (List.replicate N zs).length N):=by
       refine Qq2 w.heap.size (madeCells te.zero.cells (N*te.size)) e (0,0) (World.alloc_heap_new w _) (List.replicate N zs) te.size N (λo _ =>.inr rfl) true (by simp) (by unfold maxLen; omega) (λ_=>by simp) (λy hy=>by rw[(List.mem_replicate.1 hy).2]; exact z1) (λa b y c hy hc=>?_);have hy2:y=zs:=(List.mem_replicate.1 (List.mem_of_getElem? hy)).2;subst hy2;have ha:a<N:=by have:=(List.getElem?_eq_some_iff.1 hy).1; simpa using this
       have hb:b<te.size:=by rw[<-z1]; exact(List.getElem?_eq_some_iff.1 hc).1
       have hlt:a*te.size+b<N*te.size:=by
        have:(a+1)*te.size<=N*te.size:=Nat.mul_le_mul_right _ ha;rw[Nat.add_mul] at this; omega
       have hmod:(a*te.size+b) % te.size=b:=by rw[Nat.mul_comm,Nat.mul_add_mod]; exact Nat.mod_eq_of_lt hb
       have hbs:b<te.zero.cells.size:=by omega
       obtain⟨d,d1,d2⟩:=q2 b c hc;have hcell:=hzr.2 b d te.zero.cells[b] d1 (Array.getElem?_eq_getElem hbs);refine⟨te.zero.cells[b],?_,hcell.1,(Qfe hcell.2 d2).mono s1.ext.size s1.ext.com⟩;unfold madeCells;rw[Array.getElem?_map,Array.getElem?_range,if_pos hlt];simp only[Option.map_some,hzsz,hmod,Option.some.injEq];simp[hbs]
      rw[List.length_replicate] at hrow;rw[Int.toNat_natCast] at hK;exact⟨_,_,_,_,s,hr,s1,s2,.p _ _ hrow,hK⟩
     .exact h.elim
    .exact h.elim
   .exact h.elim
  .exact h.elim
 .exact h.elim
end
abbrev Env:=List (Nat×D)
structure St where
 env:Env
 s:S
def ev(env:Env):Operand->Option D
 | .tmp t=>env.lookup t
 | .const u=>(absV u).map .p
 | .func f=>some (.fn (.func f) [] [])
 | .global _=>none
structure Rel (N:Nat) (G:Gh) (σ : St) (a:Act) (w:World):Prop where
 inv:Inv G σ.s w
 env:EnvRel G w σ.env a
 size:a.tmps.size=N
theorem Qrz{G:Gh}{w:World}{env:Env}{a:Act}(h:EnvRel G w env a)(x:Operand)(d:D)(hx:ev env x=some d):DRel G w d (a.eval x):=by
 cases x with
 | tmp t=>exact(h t d hx).2
 | const u =>
  simp only[ev,Option.map_eq_some_iff] at hx;obtain⟨v,hv,rfl⟩:=hx;exact .p v u (Ql4 hv)
 | func f =>
  simp only[ev,Option.some.injEq] at hx;subst hx;exact .fn _ _ _ #[] #[] rfl rfl (λj c u h=>by simp at h) (λj c u h=>by simp at h)
 | global g=>simp[ev] at hx
def isFn(P:Program)(f:FuncId):Bool :=
 match P.funcs[f]? with
 | some fn=>fn.name != "runtime.NumGoroutine" && fn.body.isSome
 | none=>false
structure PCall (P:Program) (f:FuncId) (args:List V) (r:D):Prop where
 fn:isFn P f=true
 out:∀ (C:Nat->Nat->Prop) (w:World) (us:Array Value),GlobOk C w->us.size=args.length->(∀ (j:Nat) x u,args[j]? = some x->us[j]? = some u->VRel C w x u) ->
  Calls P f us w λe w' => ∃ u,e = .returned u/\DRel ⟨λb o=>C b o\/w.heap.size<=b,[],[]⟩ w' r u/\Below w.heap.size w w'
def aOp(tb:Tbl)(o:Op)(e:Operand->Option D)(s:S)(K:D->S->Prop):Prop :=
 match o with
 | .move x=>match e x with | some d=>K d s | none=>False
 | .assign x=>match e x with | some d=>K d s | none=>False
 | .pick c x y=>match e c with
  | some (.p (.v (.bool true)))=>match e x with | some d=>K d s | none=>False
  | some (.p (.v (.bool false)))=>match e y with | some d=>K d s | none=>False
  | _=>False
 | .alloc t=>Qxf tb t s K
 | .box t x=>match e x with | some d=>aBox tb t d s K | none=>False
 | .build t ps=>Q5x tb t (evps e ps.toList) s K
 | .buildSlice t n ps=>Qlc tb t n (evps e ps.toList) s K
 | .makeSlice t x y=>match e x,e y with | some a,some b=>Qm7 tb t a b s K | _,_=>False
 | .load t x=>match tb.lookup t,e x with
  | some ti,some (.p (.ep cs))=>Qxg ti cs λv=>K (.p v) s
  | some ti,some (.ef d)=>Qps ti.d=false/\K d s
  | some ti,some (.ptr nm off)=>match s.heap[nm]? with
   | some ds=>Qxh ti (ds.drop off) λd=>K d s
   | none=>False
  | _,_=>False
 | .store t x y=>match e x,e y with | some a,some b=>Qvh tb t a b s K | _,_=>False
 | .nilCheck x=>match e x with | some d=>Qtd d s K | none=>False
 | .binOp op t x y _=>match e x,e y with | some a,some b=>Q5r tb op t a b s K | _,_=>False
 | .unOp op _ x=>match e x with | some d=>aUn op d s K | none=>False
 | .convert src dst x=>match e x with | some d=>Qadn tb src dst d s K | none=>False
 | .makeFunc f xs ys=>Qpu f (evs e xs.toList) (evs e ys.toList) s K
 | .slice t x lo hi none=>match e x,evo e lo,evo e hi with | some d,some l,some h=>Q5u tb t d l h s K | _,_,_=>False
 | .fieldAddr t x f=>match e x with | some d=>Qm5 tb t d f s K | none=>False
 | .field t x f=>match e x with | some d=>Q5m tb t d f s K | none=>False
 | .indexAddr t x i=>match e x,e i with | some a,some b=>Qm6 tb t a b s K | _,_=>False
 | .index t x i=>match e x,e i with | some a,some b=>Q5o tb t a b s K | _,_=>False
 | .extract x i=>match e x with | some d=>Qtc d i s K | none=>False
 | .call c=>match c.callee,evs e c.args.toList,c.argTypes.toList with
  | .builtin .len,some [x],[t]=>aLen tb t x s K
  | .builtin .append,some [x,y],[t,t']=>if t=t' then aApp tb t x y s K else Qadr tb t t' x y s K
  | .builtin .min,some [x,y],_=>Quw false x y s K
  | .builtin .max,some [x,y],_=>Quw true x y s K
  | .builtin .max,some [x,y,z],_=>Qta true x y z s K
  | _,_,_=>False
 | _=>False
def dn:D->D
 | .own _ _ _ es =>.p (.sl false es)
 | d=>d
structure CallX (E:Value->Ending) (P:Program) (f:FuncId) (args:List D) (s:S) (r:D) (s' : S):Prop where
 fn:isFn P f=true
 out:∀ (G:Gh) (w:World) (us:Array Value),Inv G s w->us.size=args.length->(∀ (j:Nat) d u,args[j]? = some d->us[j]? = some u->DRel G w d u) ->
  Calls P f us w λe w' => ∃ u G', e=E u/\Stp G w G' w' /\ Inv G' s' w' /\ DRel G' w' r u
abbrev CallOK(P:Program)(f:FuncId)(args:List D)(s:S)(r:D)(s' : S):Prop:=CallX .returned P f args s r s'
def Qle(z:List UInt8):List PanicEntry:=[{ v :=.iface 88 (.agg #[Qd1 z]),recovered:=false }]
abbrev CallPan(P:Program)(f:FuncId)(args:List D)(s:S)(z:List UInt8)(s' : S):Prop:=CallX (λ_ =>.panicked (Qle z)) P f args s .undef s'
def RelL(xs ys:List V):Prop:=∀ C w (us:Array Value),us.size=xs.length->(∀ (j:Nat) c u,xs[j]? = some c->us[j]? = some u->VRel C w c u)->us.size=ys.length/\∀ (j:Nat) c u,ys[j]? = some c->us[j]? = some u->VRel C w c u
def Qads(t:Nat)(xs:List (List V))(ds:List D)(s:S)(K:D->S->Prop):Prop :=
 ∃ k x vs,s.live[t]? = some k/\xs[k]? = some x/\unps ds=some vs/\RelL vs x/\K (.p (.v (.bool true))) ⟨s.heap,s.live.set t (k+1)⟩/\K (.p (.v (.bool false))) ⟨s.heap,s.live.set t (xs.length+1)⟩
structure Q8h (gn:Bool) (P:Program) (f:FuncId) (args:List D) (s:S) (r:D) (s' : S):Prop where
 ok:CallOK P f args s r s'
 quiet:gn=false->s' = s/\∀ live,CallOK P f args ⟨s.heap,live⟩ r ⟨s.heap,live⟩
def Q5z(gn:Bool)(P:Program)(c:Call)(e:Operand->Option D)(s:S)(K:D->S->Prop):Prop :=
 match c.callee with
 | .value f=>match e f,evs e c.args.toList with
  | some (.fn (.func g) first cap),some ds=>∃ r s', Q8h gn P g ((first++ds++cap).map dn) s r s' /\ K r s'
  | some (.yld P' t xs),some ds=>gn=true/\P' = P/\Qads t xs ds s K
  | _,_=>False
 | _=>False
def Qbk:Op->Option Call
 | .call c=>match c.callee with | .value _=>some c | _=>none
 | _=>none
def Qf5(gn:Bool)(P:Program)(tb:Tbl)(o:Op)(e:Operand->Option D)(s:S)(K:D->S->Prop):Prop :=
 match Qbk o with
 | some c=>Q5z gn P c e s K
 | none=>aOp tb o e s K
def Res(_P:Program)(G:Gh)(w:World)(r:Result Next)(K:D->S->Prop):Prop :=
 ∃ u w' G' d s', (r = .ok (.value u) w' \/ (r = .ok .skip w' /\ u=undef))/\Stp G w G' w' /\ Inv G' s' w' /\ DRel G' w' d u/\K d s'
section
variable {P:Program} {tb:Tbl}
theorem Out.res{G:Gh}{w:World}{sem:Sem Value}{K:D->S->Prop}(h:Out P G w (sem.run P w) K):Res P G w ((sem>>=λx=>Pure.pure (Next.value x):Sem Next).run P w) K:=by
 obtain⟨u,w', G', d,s', hr,r⟩:=h;exact⟨u,w', G', d,s', .inl (by simp[hr]),r⟩
theorem Q2r{G:Gh}{w:World}{e:Operand->Option D}{a:Act}(hev:∀ x d,e x=some d->DRel G w d (a.eval x))(x:Option Operand)(l:Option D)(h:evo e x=some l):Qvk G w l (x.map a.eval):=by
 cases x with
 | none=>simp[evo] at h; subst h; trivial
 | some x =>
  unfold evo at h;split at h
  .rename_i h0; cases h0
  .rename_i x' h0;cases h0;split at h
   .rename_i d hd; cases h; exact hev _ d hd
   .cases h
set_option maxHeartbeats 1000000 in
theorem Qadt(hT:TblOk P tb){G:Gh}{w:World}{s:S}(hI:Inv G s w){K:D->S->Prop}{e:Operand->Option D}{a:Act}(hev:∀ x d,e x=some d->DRel G w d (a.eval x))(o:Oper)(h:aOp tb o.op e s K) :
  Res P G w ((execOp a.eval o).run P w) K:=by
 unfold execOp;unfold aOp at h;split at h
 ·
  rename_i x ho;simp only[ho];split at h
  .rename_i d hd;exact⟨_,w,G,d,s,.inl rfl,.refl G w,hI,hev _ d hd,h⟩
  .exact h.elim
 .rename_i x ho;simp only[ho];split at h
  .rename_i d hd;exact⟨_,w,G,d,s,.inl rfl,.refl G w,hI,hev _ d hd,h⟩
  .exact h.elim
 .rename_i c x y ho;simp only[ho];split at h
  .rename_i hc;have hb:=hev c _ hc;have hbv:a.eval c = .bool true:=by
    generalize a.eval c=q at hb;cases hb with | p _ _ hb=>cases hb; rfl
   split at h
   .rename_i d hd;exact⟨_,w,G,d,s,.inl (by simp[hbv,asBool]),.refl G w,hI,hev _ d hd,h⟩
   .exact h.elim
  .rename_i hc;have hb:=hev c _ hc;have hbv:a.eval c = .bool false:=by
    generalize a.eval c=q at hb;cases hb with | p _ _ hb=>cases hb; rfl
   split at h
   .rename_i d hd;exact⟨_,w,G,d,s,.inl (by simp[hbv,asBool]),.refl G w,hI,hev _ d hd,h⟩
   .exact h.elim
  .exact h.elim
 .rename_i t ho;simp only[ho];exact(Q5h hT hI t h).res
 .rename_i t x ho;simp only[ho];split at h
  .rename_i d hd;exact(Qab0 hT hI t (hev _ d hd) h).res
  .exact h.elim
 .rename_i t ps ho;simp only[ho];exact(Q5y hT hI hev t ps h).res
 .rename_i t n ps ho;simp only[ho];exact(Qux hT hI hev t n ps h).res
 .rename_i t x y ho;simp only[ho];split at h
  .rename_i p q hp hq;exact(Qv6 hT hI (hev _ _ hp) (hev _ _ hq) h).res
  .exact h.elim
 .rename_i t x ho;simp only[ho];split at h
  .rename_i ti cs ht hx;have:=hev x _ hx;generalize a.eval x=q at this;cases this with
   | p _ _ hq=>exact(Q5i hT hI ht hq h).res
  .rename_i ti d ht hx;have:=hev x _ hx;generalize a.eval x=q at this;cases this with
   | ef _ b off u h1 h2 h3 =>
    obtain⟨ha,h⟩:=h;have hr:=(Qm4 hT ht w b off [u] (λj v hv=>by
     cases j with
     | zero=>cases hv; exact h2
     | succ j=>simp at hv)).2 ha u rfl
    exact(Out.pure hI d hr h3 h).res
  .rename_i ti nm off ht hx;split at h
   .rename_i ds hds;exact(Q5j hT hI ht (hev x _ hx) hds h).res
   .exact h.elim
  .exact h.elim
 .rename_i t x y ho;simp only[ho];split at h
  .rename_i p q hp hq;obtain⟨w', G', s', hr,r1,r2,r3⟩:=Q5k hT hI (hev _ _ hp) (hev _ _ hq) h;exact⟨undef,w', G', .undef,s', .inr ⟨by simp[hr],rfl⟩,r1,r2,.undef,r3⟩
  .exact h.elim
 .rename_i x ho;simp only[ho];split at h
  .rename_i d hd;have hr:=hev _ d hd;unfold Qtd at h;split at h
   .cases hr2:a.eval x with
    | pointer p =>
     rw[hr2] at hr;cases p with
     | none=>cases hr with | p _ _ hr=>cases hr
     | some p=>exact⟨_,w,G,_,s,.inl rfl,.refl G w,hI,hr,h⟩
    | _=>rw[hr2] at hr; cases hr with | p _ _ hr=>cases hr
   .rename_i b cs;obtain⟨hb,h⟩:=h;subst hb;have hr:VRel G.com w (.ep cs) (a.eval x):=by cases hr with | p _ _ hr=>cases hr with | opt _ _ _ _ h2=>exact h2 rfl
    cases hr2:a.eval x with
    | pointer p =>
     rw[hr2] at hr;cases p with
     | none=>cases hr
     | some p=>exact⟨_,w,G,_,s,.inl rfl,.refl G w,hI,.p _ _ hr,h⟩
    | _=>rw[hr2] at hr; cases hr
   .cases hr2:a.eval x with
    | pointer p =>
     rw[hr2] at hr;cases p with
     | none=>cases hr
     | some p=>exact⟨_,w,G,_,s,.inl rfl,.refl G w,hI,hr,h⟩
    | _=>rw[hr2] at hr; cases hr
   .cases hr2:a.eval x with
    | func f us vs =>
     rw[hr2] at hr;have hr3:=hr;cases hr;exact⟨_,w,G,_,s,.inl rfl,.refl G w,hI,hr3,h⟩
    | _=>rw[hr2] at hr; cases hr
   .exact h.elim
  .exact h.elim
 .rename_i op t x y t' ho;simp only[ho];split at h
  .rename_i p q hp hq;exact(Q5s hT hI (hev _ _ hp) (hev _ _ hq) x y h).res
  .exact h.elim
 .rename_i op t x ho;simp only[ho];split at h
  .rename_i d hd;exact(Qadl hI (hev _ _ hd) h).res
  .exact h.elim
 .rename_i src dst x ho;simp only[ho];split at h
  .rename_i d hd;exact(Q8e hT hI (hev _ _ hd) h).res
  .exact h.elim
 .rename_i f xs ys ho;simp only[ho];exact(Qxk hI hev f xs ys h).res
 .rename_i t x lo hi ho;simp only[ho];split at h
  .rename_i d l m hd hl hm;exact(Q5w hT hI (hev _ _ hd) (Q2r hev lo l hl) (Q2r hev hi m hm) h).res
  .exact h.elim
 .rename_i t x f ho;simp only[ho];split at h
  .rename_i d hd;exact(Qv4 hT hI (hev _ _ hd) h).res
  .exact h.elim
 .rename_i t x f ho;simp only[ho];split at h
  .rename_i d hd;exact(Q5n hT hI (hev _ _ hd) h).res
  .exact h.elim
 .rename_i t x i ho;simp only[ho];split at h
  .rename_i p q hp hq;exact(Qv5 hT hI (hev _ _ hp) (hev _ _ hq) h).res
  .exact h.elim
 .rename_i t x i ho;simp only[ho];split at h
  .rename_i p q hp hq;exact(Q5p hT hI (hev _ _ hp) (hev _ _ hq) h).res
  .exact h.elim
 .rename_i x i ho;simp only[ho];split at h
  .rename_i d hd;exact(Qzx hI (hev _ _ hd) h).res
  .exact h.elim
 .rename_i c ho;simp only[ho];split at h
  .rename_i x t hc hx ht;obtain⟨e1,e2⟩:=Qgi hev _ _ hx;have hargs:∃ x1,c.args = #[x1]:=by
    have:c.args.toList.length=1:=by rw[<-e1]; rfl
    match h:c.args.toList,this with
    | [x1],_=>exact⟨x1,by rw[<-Array.toArray_toList (xs:=c.args),h]⟩
   obtain⟨x1,hargs⟩:=hargs;have htys:c.argTypes = #[t]:=by rw[<-Array.toArray_toList (xs:=c.argTypes),ht]
   have hd:=e2 0 x (a.eval x1) rfl (by rw[hargs]; rfl);obtain⟨u,w', G', d,s', hr,r⟩:=Qab3 (ty:=o.type) hT hI hd h;refine⟨u,w', G', d,s', .inl ?_,r⟩;simp[resolve,hc,invoke,builtin,hargs,htys,hr]
  .rename_i x y t t' hc hx ht;split at h
   .rename_i htt;subst htt;obtain⟨e1,e2⟩:=Qgi hev _ _ hx;have hargs:∃ x1 y1,c.args = #[x1,y1]:=by
     have:c.args.toList.length=2:=by rw[<-e1]; rfl
     match h:c.args.toList,this with
     | [x1,y1],_=>exact⟨x1,y1,by rw[<-Array.toArray_toList (xs:=c.args),h]⟩
    obtain⟨x1,y1,hargs⟩:=hargs;have htys:c.argTypes = #[t,t]:=by rw[<-Array.toArray_toList (xs:=c.argTypes),ht]
    have hd:=e2 0 x (a.eval x1) rfl (by rw[hargs]; rfl);have hd2:=e2 1 y (a.eval y1) rfl (by rw[hargs]; rfl);obtain⟨u,w', G', d,s', hr,r⟩:=Qab4 hT hI o.type hd hd2 h;refine⟨u,w', G', d,s', .inl ?_,r⟩;simp[resolve,hc,invoke,builtin,hargs,htys,hr]
   .obtain⟨e1,e2⟩:=Qgi hev _ _ hx;have hargs:∃ x1 y1,c.args = #[x1,y1]:=by
     have:c.args.toList.length=2:=by rw[<-e1]; rfl
     match h:c.args.toList,this with
     | [x1,y1],_=>exact⟨x1,y1,by rw[<-Array.toArray_toList (xs:=c.args),h]⟩
    obtain⟨x1,y1,hargs⟩:=hargs;have htys:c.argTypes = #[t,t']:=by rw[<-Array.toArray_toList (xs:=c.argTypes),ht]
    have hd:=e2 0 x (a.eval x1) rfl (by rw[hargs]; rfl);have hd2:=e2 1 y (a.eval y1) rfl (by rw[hargs]; rfl);obtain⟨u,w', G', d,s', hr,r⟩:=Q8g hT hI o.type hd hd2 h;refine⟨u,w', G', d,s', .inl ?_,r⟩;simp[resolve,hc,invoke,builtin,hargs,htys,hr]
  .rename_i x y hc hx;obtain⟨e1,e2⟩:=Qgi hev _ _ hx;have hargs:∃ x1 y1,c.args = #[x1,y1]:=by
    have:c.args.toList.length=2:=by rw[<-e1]; rfl
    match h:c.args.toList,this with
    | [x1,y1],_=>exact⟨x1,y1,by rw[<-Array.toArray_toList (xs:=c.args),h]⟩
   obtain⟨x1,y1,hargs⟩:=hargs;have hd:=e2 0 x (a.eval x1) rfl (by rw[hargs]; rfl);have hd2:=e2 1 y (a.eval y1) rfl (by rw[hargs]; rfl);obtain⟨u,w', G', d,s', hr,r⟩:=Qtb (P:=P) hI hd hd2 c.argTypes o.type h;refine⟨u,w', G', d,s', .inl ?_,r⟩;simp at hr;simp[resolve,hc,invoke,builtin,hargs,hr]
  .rename_i x y hc hx;obtain⟨e1,e2⟩:=Qgi hev _ _ hx;have hargs:∃ x1 y1,c.args = #[x1,y1]:=by
    have:c.args.toList.length=2:=by rw[<-e1]; rfl
    match h:c.args.toList,this with
    | [x1,y1],_=>exact⟨x1,y1,by rw[<-Array.toArray_toList (xs:=c.args),h]⟩
   obtain⟨x1,y1,hargs⟩:=hargs;have hd:=e2 0 x (a.eval x1) rfl (by rw[hargs]; rfl);have hd2:=e2 1 y (a.eval y1) rfl (by rw[hargs]; rfl);obtain⟨u,w', G', d,s', hr,r⟩:=Qtb (P:=P) hI hd hd2 c.argTypes o.type h;refine⟨u,w', G', d,s', .inl ?_,r⟩;simp at hr;simp[resolve,hc,invoke,builtin,hargs,hr]
  .rename_i x y z hc hx;obtain⟨e1,e2⟩:=Qgi hev _ _ hx;have hargs:∃ x1 y1 z1,c.args = #[x1,y1,z1]:=by
    have:c.args.toList.length=3:=by rw[<-e1]; rfl
    match h:c.args.toList,this with
    | [x1,y1,z1],_=>exact⟨x1,y1,z1,by rw[<-Array.toArray_toList (xs:=c.args),h]⟩
   obtain⟨x1,y1,z1,hargs⟩:=hargs;have hd:=e2 0 x (a.eval x1) rfl (by rw[hargs]; rfl);have hd2:=e2 1 y (a.eval y1) rfl (by rw[hargs]; rfl);have hd3:=e2 2 z (a.eval z1) rfl (by rw[hargs]; rfl);obtain⟨u,w', G', d,s', hr,r⟩:=Qzw (P:=P) hI hd hd2 hd3 c.argTypes o.type h;refine⟨u,w', G', d,s', .inl ?_,r⟩;simp at hr;simp[resolve,hc,invoke,builtin,hargs,hr]
  .exact h.elim
 .exact h.elim
end
section
variable {P:Program} {tb:Tbl}
theorem DRel.weak{G:Gh}{C:Nat->Nat->Prop}{w:World}{d:D}{u:Value}(h:DRel ⟨C,[],[]⟩ w d u)(hc:∀ b o,C b o->G.com b o):DRel G w d u:=by
 induction h with
 | p x u h=>exact .p x u (h.mono (Nat.le_refl _) λb o u h1 h2=>⟨hc b o h1,h2⟩)
 | ptr nm off b h=>simp at h
 | own t e size es u T h1 h2 h3=>simp at h3
 | fn f first cap us vs h1 h2 _ _ ih1 ih2=>exact .fn f first cap us vs h1 h2 ih1 ih2
 | yld t T p h=>simp at h
 | sp P u b nm off i e n v h=>simp at h
 | agg cs us h1 h2 _ ih=>exact .agg cs us h1 h2 ih
 | tup cs us h1 _ ih=>exact .tup cs us h1 ih
 | sf ds b us h1 _ ih=>exact .sf ds b us (λi d hd=>⟨hc _ _ (h1 i d hd).1,(h1 i d hd).2⟩) ih
 | ef d b off u h1 h2 _ ih=>exact .ef d b off u (hc _ _ h1) h2 ih
 | x t v X u T h=>simp at h
 | mh nm b h=>simp at h
 | undef=>exact .undef
theorem Qadu{G:Gh}{s:S}{w w' : World}(hI:Inv G s w)(h:Below w.heap.size w w') :
  Stp G w { G with com:=λb o=>G.com b o\/(w.heap.size<=b/\b<w'.heap.size) } w' /\ Inv { G with com:=λb o=>G.com b o\/(w.heap.size<=b/\b<w'.heap.size) } s w' := by
 have hst:Stp G w { G with com:=λb o=>G.com b o\/(w.heap.size<=b/\b<w'.heap.size) } w' := by
  refine⟨⟨h.os,h.tape,h.output,h.size,λb o u hc hu=>⟨.inl hc,?_⟩,λb hb _ _=>h.block b hb,λb o hc=>?_,λb hb =>.inr hb,λ_ _ h =>.inl h,λb sh hk=>by rw[Qjd (h.block b (Qn1 hk))]; exact hk⟩,λ_ _ h=>h,λt T hT=>⟨T,hT,.refl T,λ_=>⟨rfl,λb hb=>h.block b (hI.tok t T b hT hb).1⟩⟩⟩
  .rw[h.cell (p:=⟨b,o,none⟩) (hI.com b o hc).1]; exact hu
  .rcases hc with hc | hc
   .exact .inl hc
   .exact .inr (.inl hc.1)
 refine⟨hst,⟨λb o hc=>?_,hI.names,hI.nodup,λi b cs hb hcs=>?_,hI.live,λt T b hT hb=>?_,hI.proS hst rfl,hI.glob.mono hst.ext.com⟩⟩
 .rcases hc with hc | hc
  .obtain⟨h1,h2⟩:=hI.com b o hc;exact⟨Nat.lt_of_lt_of_le h1 h.size,h2⟩
  .have key:∀ T ∈ G.tok,¬ T.has b:=λT hT hb=>by
    obtain⟨t,ht⟩:=List.getElem?_of_mem hT;have:=(hI.tok t T b ht hb).1; omega
   exact⟨hc.2,λhm=>by have:=Qd5 hI b hm; omega,λT hT=>⟨λhb=>absurd (.inl hb) (key T hT),λhb=>absurd (.inr hb) (key T hT)⟩⟩
 .exact(hI.var i b cs hb hcs).mono hst (by rw[h.block b (Qd5 hI b (List.mem_of_getElem? hb))])
 .obtain⟨h1,h2⟩:=hI.tok t T b hT hb;exact⟨Nat.lt_of_lt_of_le h1 h.size,h2⟩
theorem DRel.lt{C:Nat->Nat->Prop}{w:World}{x:V}{u:Value}(h:VRel C w x u):VRel (λb o=>C b o/\b<w.heap.size) w x u :=
 h.mono (Nat.le_refl _) λ_ _ _ h1 h2=>⟨⟨h1,Qxe h2⟩,h2⟩
theorem DRel.ltD{C:Nat->Nat->Prop}{w:World}{d:D}{u:Value}(h:DRel ⟨C,[],[]⟩ w d u):DRel ⟨λb o=>C b o/\b<w.heap.size,[],[]⟩ w d u:=by
 induction h with
 | p x u h=>exact .p x u (DRel.lt h)
 | ptr nm off b h=>simp at h
 | own t e size es u T h1 h2 h3=>simp at h3
 | fn f first cap us vs h1 h2 _ _ ih1 ih2=>exact .fn f first cap us vs h1 h2 ih1 ih2
 | yld t T p h=>simp at h
 | sp P u b nm off i e n v h=>simp at h
 | agg cs us h1 h2 _ ih=>exact .agg cs us h1 h2 ih
 | tup cs us h1 _ ih=>exact .tup cs us h1 ih
 | sf ds b us h1 _ ih=>exact .sf ds b us (λi d hd=>⟨⟨(h1 i d hd).1,Qxe (h1 i d hd).2.1⟩,(h1 i d hd).2⟩) ih
 | ef d b off u h1 h2 _ ih=>exact .ef d b off u ⟨h1,Qxe h2⟩ h2 ih
 | x t v X u T h=>simp at h
 | mh nm b h=>simp at h
 | undef=>exact .undef
theorem Qpw{f:FuncId}(h:isFn P f=true)(args:Array Value)(w:World):(callFunc f args).run P w = .ok (.enter f args) w:=by
 unfold isFn at h;split at h
 .rename_i fn hf;simp only[Bool.and_eq_true,bne_iff_ne,ne_eq] at h;obtain⟨c,hc⟩:=Option.isSome_iff_exists.1 h.2;simp[callFunc,hf,h.1,hc]
 .cases h
theorem Qah1{G:Gh}{w:World}{d:D}{u:Value}(h:DRel G w d u):DRel G w (dn d) u:=by
 unfold dn;split
 .cases h with
  | own _ _ _ _ u T hx=>exact .p _ _ hx
 .exact h
theorem PCall.ok{f:FuncId}{xs:List V}{r:D}(h:PCall P f xs r)(s:S):CallOK P f (xs.map .p) s r s:=by
 refine⟨h.fn,λG w us hI hs hrel=>(h.out G.com w us hI.glob (by simpa using hs) λj x u hx hu=>?_).mono λen w' ⟨u,he,hd,hb⟩=>?_⟩
 .have:=hrel j (.p x) u (by rw[List.getElem?_map,hx]; rfl) hu;cases this with | p _ _ h=>exact h
 .obtain⟨s1,s2⟩:=Qadu hI hb;exact⟨u,_,he,s1,s2,hd.ltD.weak λb o hco=>by
   rcases hco with ⟨hco | hco,hlt⟩
   .exact .inl hco
   .exact .inr ⟨hco,hlt⟩⟩
theorem PCall.c{gn:Bool}{f:FuncId}{xs:List V}{r:D}{s:S}(h:PCall P f xs r):Q8h gn P f (xs.map .p) s r s:=⟨h.ok s,λ_=>⟨rfl,λ_=>h.ok _⟩⟩
def FW:Option Nat->Fence
 | none=>Fence.wide
 | some l=>Fence.wide.inRound l
theorem Q50(rd:Option Nat)(f:FuncId):(FW rd).fn f:=by cases rd<;>trivial
theorem Q2s(rd:Option Nat):(FW rd).round=rd:=by cases rd<;>rfl
theorem Qagj(rd:Option Nat):(FW rd).depth=none:=by cases rd<;>rfl
theorem Qadv(rd:Option Nat)(n:Nat):(FW rd).room n:=by cases rd<;>exact room_wide _
theorem Qtg{rd:Option Nat}{n:Nat}{f:FuncId}{args:Array Value}{w:World}{R:Ending->World->Prop}(h:Calls P f args w R):CallsIn (FW rd) n P f args w R:=by cases rd<;>exact callsIn_wide.2 h
theorem Qakq{rd:Option Nat}{l:Nat}{f:FuncId}{tmps:Array Value}{a b:Code}{w:World}{R:Ending->World->Prop}(h:RoundIn Fence.wide 0 P l f tmps a b w R):RoundIn (FW rd) (0-1) P l f tmps a b w R:=by cases rd<;>exact h
theorem FW_n{rd:Option Nat}(n:Nat):(FW rd).depth.isSome=true->1<=n:=λh=>by rw[Qagj] at h; cases h
theorem Qlf{rd:Option Nat}{o:Oper}{a:Act}{w:World}{next:Act->World->Prop}{Q:Exit->Act->World->Prop}(hd:∀ c,o.op ≠ .defer c)(h:o.uponIn (FW rd) 0 P a next Q ((execOp a.eval o).run P w)):o.wpIn (FW rd) 0 P a w next Q :=
 ⟨λ_ _=>Q50 _ _,by rw[Oper.semAt_eq _ _ _ hd]; exact h⟩
theorem Q51{rd:Option Nat}{N:Nat}{G:Gh}{σ : St}{a:Act}{w:World}(hR:Rel N G σ a w){o:Oper}{c:Call}(hoc:o.op = .call c){f:Operand}(hc:c.callee = .value f){t:Nat}{xs:List (List V)}{ds:List D}
  (hf:DRel G w (.yld P t xs) (a.eval f)) (hds:ds.length=c.args.toList.length/\∀ (j:Nat) d u,ds[j]? = some d->(c.args.toList.map a.eval)[j]? = some u->DRel G w d u) {K:D->S->Prop} (h:Qads t xs ds σ.s K)
  {next:Act->World->Prop} {Q:Exit->Act->World->Prop} (hn:∀ u w' G' d s', Stp G w G' w' -> Inv G' s' w' -> DRel G' w' d u->K d s' -> next (a.put o.dst u) w'):o.wpIn (FW rd) 0 P a w next Q:=by
 obtain⟨k,x,vs,h1,h2,h3,h4,k1,k2⟩:=h;generalize hfv:a.eval f=fv at hf;generalize hP:P=P' at hf;generalize hxs:xs=xs' at hf;cases hf with
 | yld t T p hT hp =>
  subst hP; subst hxs;obtain⟨q,hq,rfl⟩:=Option.map_eq_some_iff.1 hp;have hI:=hR.inv;have hTm:T ∈ G.tok:=List.mem_of_getElem? hT;have hlt:t<G.tok.length:=(List.getElem?_eq_some_iff.1 hT).1;have hlen:T.len=k:=by
   have:(G.tok.map (·.len))[t]? = some T.len:=by rw[List.getElem?_map,hT]; rfl
   rw[hI.live,h1] at this;exact(Option.some.inj this).symm
  have hkx:k<q.p.xs.length:=(List.getElem?_eq_some_iff.1 h2).1;obtain⟨g1,g2⟩:=hI.pro T hTm;have hst:=g1 q hq;rw[hlen] at hst;obtain⟨e1,e2⟩:=hds;obtain⟨u1,u2⟩:=Qhm (G:=G) (w:=w) ds vs h3;obtain⟨r1,r2⟩:=h4 G.com w (c.args.map a.eval) (by rw[u1,e1]; simp) (λj x u hx hu=>by
   obtain⟨d,hd,hdx⟩:=u2 j x hx;exact Qfe (e2 j d u hd (by simpa using hu)) hdx)
  have hown:∀ b,q.own b->T.has b:=λb hb =>.inr ⟨q,hq,hb⟩
  obtain⟨fn,tmps,assign,body,hrun,hrnd⟩:=q.p.law k q.own q.rel G.com w x (c.args.map a.eval) hst h2 r1 r2 (λb o hr=>g2 b o ⟨q,hq,hr⟩)
   (λb o hb=>⟨(hI.com b o hb).1,λhm=>by
    obtain⟨q', hq', hr⟩:=((hI.com b o hb).2.2 T hTm).2 ⟨q,hq,hm⟩;rw[hq] at hq'; cases hq'; exact hr⟩)
   (λb hb=>(hI.tok t T b hT (hown b hb)).1)
  have hrun2:(execOp a.eval o).run q.p.P w = .ok (.round q.p.l fn tmps assign body) w:=by
   unfold execOp;simp only[hoc];simp[resolve,hc,hfv,Deferred.ofValue,invoke,hrun]
  refine Qlf (by rw[hoc]; intro c; simp) ?_;rw[hrun2,Oper.uponIn_round];refine⟨FW_n _,Qakq (hrnd.mono λe w' ⟨k', M', K', he,hst', hy⟩=>?_)⟩;have hk' : k<k' /\ (k' = k+1\/k' = q.p.xs.length+1):=by rcases he with ⟨-,rfl⟩ | ⟨-,rfl⟩<;>omega
  obtain⟨T', hT'⟩:∃ T' : Tok,T' = ⟨k', none,0,some ⟨M', K', q.p⟩⟩:=⟨_,rfl⟩;have hT'o:∀ b,T'.has b->M' b:=λb hb=>by
   subst hT';rcases hb with hb | ⟨q', hq', hb⟩
   .cases hb
   .cases hq'; exact hb
  have hMn:∀ b,q.own b->b ∉ G.name:=λb hb=>(hI.tok t T b hT (hown b hb)).2.1
  have hMt:∀ (t' : Nat) T'' b,G.tok[t']? = some T'' -> T''.has b->q.own b->t' = t:=λt' T'' b h' hb hm=>(hI.tok t T b hT (hown b hm)).2.2 t' T'' h' hb
  obtain⟨G', hG'⟩:∃ G' : Gh,G' = ⟨K', G.name,G.tok.set t T'⟩:=⟨_,rfl⟩;have hset:∀ (t' : Nat) T'', G'.tok[t']? = some T'' -> (t' = t/\T'' = T')\/(t' ≠ t/\G.tok[t']? = some T''):=λt' T'' h' => by
   subst hG';have h' : (G.tok.set t T')[t']? = some T'' := h';by_cases htt:t' = t
   .subst htt;rw[List.getElem?_set_self hlt] at h';exact .inl ⟨rfl,(Option.some.inj h').symm⟩
   .rw[List.getElem?_set_ne (λe=>htt e.symm)] at h';exact .inr ⟨htt,h'⟩
  have hstp:Stp G w G' w' := by
   refine⟨⟨hy.os,hy.tape,hy.output,hy.size,λb o u hb hu=>?_,λb hb hn ht=>hy.old b hb λhm=>ht T hTm (hown b hm),λb o hb=>?_,λb hb=>?_,λb o hb=>by subst hG'; exact hy.mono b o hb,hy.shp⟩,λnm b hb=>by subst hG'; exact hb,λt' T'' h' => ?_⟩
   .subst hG'; exact hy.com b o u hb hu
   .subst hG';rcases (hy.new b o hb).2 with h | h | h
    .exact .inl h
    .exact .inr (.inl h)
    .exact .inr (.inr (.inr ⟨T,hTm,hown b h⟩))
   .rcases hb with hb | ⟨T'', hT'', hb⟩
    .subst hG'; exact .inr (.inl hb)
    .obtain⟨t', ht'⟩:=List.getElem?_of_mem hT'';rcases hset t' T'' ht' with ⟨-,rfl⟩ | ⟨-,h'⟩
     .rcases (hy.own b (hT'o b hb)).2 with h | h
      .exact .inr (.inr ⟨T,hTm,hown b h⟩)
      .exact .inl h
     .exact .inr (.inr ⟨T'', List.mem_of_getElem? h', hb⟩)
   .by_cases htt:t' = t
    .subst htt;rw[hT] at h'; cases h';refine⟨T', by subst hG'; exact List.getElem?_set_self hlt,⟨by subst hT'; show T.len<=k'; omega,by subst hT'; simp[hq]⟩,λe=>?_⟩;subst hT';have e:T.len=k' := e;omega
    .refine⟨T'', by subst hG'; show(G.tok.set t T')[t']? = _; rw[List.getElem?_set_ne (λe=>htt e.symm)]; exact h', .refl _,λ_=>⟨rfl,λb hb=>?_⟩⟩;exact hy.old b (hI.tok t' T'' b h' hb).1 λhm=>htt (hMt t' T'' b h' hb hm)
  have hinv:Inv G' ⟨σ.s.heap,σ.s.live.set t k'⟩ w' := by
   refine⟨λb o hb=>?_,by subst hG'; exact hI.names,by subst hG'; exact hI.nodup,λi b cs hb hcs=>?_,?_,λt' T'' b h' hb=>?_,λT'' hT'' => ?_,hR.inv.glob.mono hstp.ext.com⟩
   .have hb0:K' b o:=by subst hG'; exact hb
    obtain⟨n1,n2⟩:=hy.new b o hb0;refine⟨n1,λhm=>?_,λT'' hT'' => ?_⟩
    .have hm:b ∈ G.name:=by subst hG'; exact hm
     rcases n2 with h | h | h
     .exact(hI.com b o h).2.1 hm
     .have:=Qd5 hI b hm; omega
     .exact hMn b h hm
    .obtain⟨t', ht'⟩:=List.getElem?_of_mem hT'';rcases hset t' T'' ht' with ⟨-,rfl⟩ | ⟨hne,h'⟩
     .subst hT';exact⟨λh=>(nomatch h),λ_=>⟨_,rfl,hb0⟩⟩
     .rcases n2 with h | h | h
      .exact(hI.com b o h).2.2 T'' (List.mem_of_getElem? h')
      .have key:¬ T''.has b:=λhh=>by have:=(hI.tok t' T'' b h' hh).1; omega
       exact⟨λhh=>absurd (.inl hh) key,λhh=>absurd (.inr hh) key⟩
      .have key:¬ T''.has b:=λhh=>hne (hMt t' T'' b h' hh h)
       exact⟨λhh=>absurd (.inl hh) key,λhh=>absurd (.inr hh) key⟩
   .have hb:G.name[i]? = some b:=by subst hG'; exact hb
    have hbn:b ∈ G.name:=List.mem_of_getElem? hb;exact(hI.var i b cs hb hcs).mono hstp (by rw[hy.old b (Qd5 hI b hbn) λhm=>hMn b hm hbn])
   .subst hG'; subst hT';show(G.tok.set t _).map (·.len)=_;rw[List.map_set,hI.live]
   .rcases hset t' T'' h' with ⟨rfl,rfl⟩ | ⟨hne,h0⟩
    .have hm:=hT'o b hb;obtain⟨o1,o2⟩:=hy.own b hm;refine⟨o1,λhn=>?_,λt2 T2 ht2 hb2=>?_⟩
     .have hn:b ∈ G.name:=by subst hG'; exact hn
      rcases o2 with h | h
      .exact hMn b h hn
      .have:=Qd5 hI b hn; omega
     .rcases hset t2 T2 ht2 with ⟨rfl,-⟩ | ⟨hne2,h2'⟩
      .rfl
      .rcases o2 with h | h
       .exact hMt t2 T2 b h2' hb2 h
       .have:=(hI.tok t2 T2 b h2' hb2).1; omega
    .obtain⟨o1,o2,o3⟩:=hI.tok t' T'' b h0 hb;refine⟨Nat.lt_of_lt_of_le o1 hy.size,by subst hG'; exact o2,λt2 T2 ht2 hb2=>?_⟩;rcases hset t2 T2 ht2 with ⟨rfl,rfl⟩ | ⟨hne2,h2'⟩
     .rcases (hy.own b (hT'o b hb2)).2 with h | h
      .exact absurd (hMt t' T'' b h0 hb h) hne
      .omega
     .exact o3 t2 T2 h2' hb2
   .obtain⟨t', ht'⟩:=List.getElem?_of_mem hT'';rcases hset t' T'' ht' with ⟨rfl,rfl⟩ | ⟨hne,h'⟩
    .subst hT'; subst hG';refine⟨λq' hq' => ?_,λb o ⟨q', hq', hr⟩=>?_⟩
     .cases hq'; exact hst'
     .cases hq'; exact hr
    .have hm:=List.mem_of_getElem? h';refine⟨Tok.ok_ext (hI.pro T'' hm) hstp.ext λb hb=>hy.old b (hI.tok t' T'' b h' hb).1 λhM=>hne (hMt t' T'' b h' hb hM),λb o hr=>?_⟩;exact hstp.ext.mono b o ((hI.pro T'' hm).2 b o hr)
  rcases he with ⟨rfl,rfl⟩ | ⟨rfl,rfl⟩
  .exact hn _ w' G' _ _ hstp hinv (.p _ _ (.v _ rfl)) k1
  .exact hn _ w' G' _ _ hstp hinv (.p _ _ (.v _ rfl)) k2
theorem Qxp{rd:Option Nat}{gn:Bool}{N:Nat}{G:Gh}{σ : St}{a:Act}{w:World}(hR:Rel N G σ a w){o:Oper}{c:Call}(ho:Qbk o.op=some c){e:Operand->Option D}(hev:∀ x d,e x=some d->DRel G w d (a.eval x)){K:D->S->Prop}(h:Q5z gn P c e σ.s K)
  {next:Act->World->Prop} {Q:Exit->Act->World->Prop} (hn:∀ u w' G' d s', Stp G w G' w' -> Inv G' s' w' -> DRel G' w' d u->K d s' -> next (a.put o.dst u) w'):o.wpIn (FW rd) 0 P a w next Q:=by
 have hoc:o.op = .call c:=by
  cases hop:o.op with
  | call c' =>
   rw[hop] at ho;simp only[Qbk] at ho;split at ho
   .cases ho; rfl
   .cases ho
  | _=>rw[hop] at ho; cases ho
 unfold Q5z at h;split at h
 .rename_i f hc;split at h
  .rename_i g first cap ds hf hds
   obtain⟨r,s', hcall,hK⟩:=h;have hfv:∃ us vs,a.eval f = .func (.func g) us vs/\us.size=first.length/\vs.size=cap.length/\(∀ (j:Nat) c u,first[j]? = some c->us[j]? = some u->DRel G w c u)/\(∀ (j:Nat) c u,cap[j]? = some c->vs[j]? = some u->DRel G w c u):=by
    have:=hev f _ hf;generalize a.eval f=q at this;cases this with
    | fn _ _ _ us vs h1 h2 h3 h4=>exact⟨us,vs,rfl,h1.symm,h2.symm,h3,h4⟩
   obtain⟨us,vs,hfv,l1,l2,k1,k2⟩:=hfv;obtain⟨e1,e2⟩:=Qgi hev _ _ hds;have hrun:(execOp a.eval o).run P w = .ok (.enter g (us++c.args.map a.eval++vs)) w:=by
    unfold execOp;simp only[hoc];simp[resolve,hc,hfv,Deferred.ofValue,invoke,Qpw hcall.ok.fn]
   refine Qlf (by rw[hoc]; intro c; simp) ?_;rw[hrun,Oper.uponIn_enter];refine⟨FW_n _,Qtg ?_⟩;refine(hcall.ok.out G w (us++c.args.map a.eval++vs) hR.inv (by simp[l1,l2,e1]) (λj d u hd hu=>?_)).mono λen w' ⟨u,G', he,h1,h2,h3⟩=>?_
   .rw[List.getElem?_map] at hd;obtain⟨d0,hd0,rfl⟩:=Option.map_eq_some_iff.1 hd;refine Qah1 ?_;have hsz:(c.args.map a.eval).size=ds.length:=by simp[e1]
    by_cases hj:j<first.length+ds.length
    .rw[List.getElem?_append_left (by simpa using hj)] at hd0;rw[Array.getElem?_append_left (by simp[l1]; simp at hsz; omega)] at hu;by_cases hj2:j<first.length
     .rw[List.getElem?_append_left hj2] at hd0;rw[Array.getElem?_append_left (by omega)] at hu;exact k1 j d0 u hd0 hu
     .rw[List.getElem?_append_right (by omega)] at hd0;rw[Array.getElem?_append_right (by omega),l1] at hu;exact e2 _ d0 u hd0 (by simpa using hu)
    .rw[List.getElem?_append_right (by simp; omega)] at hd0;rw[Array.getElem?_append_right (by simp[l1]; simp at hsz; omega)] at hu;simp only[List.length_append] at hd0;simp only[Array.size_append,l1,hsz] at hu;exact k2 _ d0 u hd0 hu
   .subst he;exact hn u w' G' r s' h1 h2 h3 hK
  .rename_i P' t xs ds hf hds;obtain⟨-,rfl,hy⟩:=h;exact Q51 hR hoc hc (hev f _ hf) (Qgi hev _ _ hds) hy hn
  .exact h.elim
 .exact h.elim
theorem Q8i(hT:TblOk P tb){rd:Option Nat}{gn:Bool}{N:Nat}{G:Gh}{σ : St}{a:Act}{w:World}(hR:Rel N G σ a w){o:Oper}{K:D->S->Prop}(h:Qf5 gn P tb o.op (ev σ.env) σ.s K)
  {next:Act->World->Prop} {Q:Exit->Act->World->Prop} (hn:∀ u w' G' d s', Stp G w G' w' -> Inv G' s' w' -> DRel G' w' d u->K d s' -> next (a.put o.dst u) w'):o.wpIn (FW rd) 0 P a w next Q:=by
 have hev:=Qrz hR.env;unfold Qf5 at h;split at h
 .rename_i c hc;exact Qxp hR hc hev h hn
 .obtain⟨u,w', G', d,s', hr,r1,r2,r3,r4⟩:=Qadt hT hR.inv hev o h;refine Qlf (λc hc=>?_) ?_
  .rw[hc] at h; simp[aOp] at h
  rcases hr with hr | ⟨hr,rfl⟩
  .rw[hr]; exact hn u w' G' d s' r1 r2 r3 r4
  .rw[hr]; exact hn undef w' G' d s' r1 r2 r3 r4
def Q8j(ops:List Oper)(i:Nat):Bool:=ops.any λo=>match o.guard with | some (j,_)=>j==i | none=>false
def Qvm(g:Bool)(d:D)(k:D->Prop):Prop :=
 match g,d with
 | true,.p (.v (.bool b))=>(b=true->k (.p (.v (.bool true))))/\(b=false->k (.p (.v (.bool false))))
 | _,d=>k d
def putE(N:Nat)(env:Env)(dst:Option Nat)(d:D)(k:Env->Prop):Prop :=
 match dst with
 | none=>k env
 | some t=>if t<N then k ((t,d)::env) else False
def Qzz(ops:List Oper)(env:Env):Option (Nat×Bool)->Option Bool
 | none=>some true
 | some (j,want)=>match (ops[j]?).bind (·.dst) with
  | some t=>match env.lookup t with
   | some (.p (.v (.bool b)))=>some (b==want)
   | some .undef=>some false
   | _=>none
  | none=>none
theorem Qky{N:Nat}{G G' : Gh}{σ : St}{a:Act}{w w' : World}(hR:Rel N G σ a w)(hS:Stp G w G' w'){s' : S}(hI:Inv G' s' w'){dst:Option Nat}{d:D}{u:Value}(hd:DRel G' w' d u){k:Env->Prop}(h:putE N σ.env dst d k) :
  ∃ env', Rel N G' ⟨env', s'⟩ (a.put dst u) w' /\ k env' := by
 unfold putE at h;split at h
 .exact⟨σ.env,⟨hI,hR.env.mono hS,hR.size⟩,h⟩
 .rename_i t;split at h
  .rename_i hlt;refine⟨_,⟨hI,λt' d' h' => ?_,by simp[Act.put,hR.size]⟩,h⟩;simp only[Act.put,Array.size_setIfInBounds];rw[List.lookup_cons] at h';by_cases ht:t' = t
   .subst ht;simp only[beq_self_eq_true,Option.some.injEq] at h';subst h';have hs:t' < a.tmps.size:=by rw[hR.size]; exact hlt
    exact⟨hs,by simpa [Array.getD_eq_getD_getElem?,hs] using hd⟩
   .have hb:(t' == t)=false:=by simpa using ht
    rw[hb] at h';obtain⟨h1,h2⟩:=hR.env t' d' h';refine⟨h1,?_⟩;have hne:t≠t' := λe=>ht e.symm
    simpa [Array.getD_eq_getD_getElem?,Array.getElem?_setIfInBounds,hne] using h2.mono hS
  .exact h.elim
theorem Qsg{g:Bool}{d:D}{k:D->Prop}(h:Qvm g d k):k d:=by
 unfold Qvm at h;split at h
 .rename_i b;cases b
  .exact h.2 rfl
  .exact h.1 rfl
 .exact h
theorem Qjl{N:Nat}{G:Gh}{σ : St}{a:Act}{w:World}(hR:Rel N G σ a w)(ops:List Oper)(o:Oper)(b:Bool)(h:Qzz ops σ.env o.guard=some b):Region.wanted o (yielded ops.toArray a.tmps)=b:=by
 unfold Qzz at h;split at h
 .rename_i hg;cases h;simp[Region.wanted,hg]
 .rename_i j want hg;split at h
  .rename_i t ht;split at h
   .rename_i b' hl;obtain⟨h1,h2⟩:=hR.env t _ hl;have hv:a.tmps[t]? = some (.bool b'):=by
     rw[Array.getElem?_eq_getElem h1];have:a.tmps.getD t undef=a.tmps[t]:=by simp[Array.getD_eq_getD_getElem?,h1]
     rw[this] at h2;generalize a.tmps[t]=q at h2;cases h2 with | p _ _ h2=>cases h2; rfl
    cases h;simp only[Region.wanted,hg,yielded,List.getElem?_toArray,ht,Option.bind_some,hv];cases b' <;> cases want<;>rfl
   .rename_i hl;obtain⟨h1,h2⟩:=hR.env t _ hl;have hv:a.tmps[t]? = some undef:=by
     rw[Array.getElem?_eq_getElem h1];have:a.tmps.getD t undef=a.tmps[t]:=by simp[Array.getD_eq_getD_getElem?,h1]
     rw[this] at h2;generalize a.tmps[t]=q at h2;cases h2; rfl
    cases h;simp only[Region.wanted,hg,yielded,List.getElem?_toArray,ht,Option.bind_some,hv];cases want<;>rfl
   .cases h
  .cases h
end
def Pur(X:S->(D->S->Prop)->Prop):Prop:=∀ s K,X s K->∃ d,K d s/\∀ s' K', K' d s' -> X s' K'
theorem Pur.false:Pur λ_ _=>False:=λ_ _ h=>h.elim
theorem Pur.ret(d:D):Pur λs K=>K d s:=λ_ _ h=>⟨d,h,λ_ _ h=>h⟩
theorem Pur.and{p:Prop}{X:S->(D->S->Prop)->Prop}(h:p->Pur X):Pur λs K=>p/\X s K:=λs K ⟨hp,hx⟩ =>
 let ⟨d,h1,h2⟩:=h hp s K hx
 ⟨d,h1,λs' K' hk=>⟨hp,h2 s' K' hk⟩⟩
theorem Pur.ex{α : Type}{X : α -> S->(D->S->Prop)->Prop}(h:∀ x,Pur (X x)):Pur λs K=>∃ x,X x s K:=λs K ⟨x,hx⟩ =>
 let ⟨d,h1,h2⟩:=h x s K hx
 ⟨d,h1,λs' K' hk=>⟨x,h2 s' K' hk⟩⟩
theorem Pur.ite{p:Prop}[Decidable p]{X Y:S->(D->S->Prop)->Prop}(hx:p->Pur X)(hy:¬ p->Pur Y):Pur λs K=>if p then X s K else Y s K:=by
 by_cases h:p
 .simp only[h,if_true]; exact hx h
 .simp only[h,if_false]; exact hy h
section
variable {tb:Tbl}
theorem Q1s(x:D)(n:Nat):Pur λs K=>Q1o x n s K:=by
 unfold Q1o; split<;>first | exact .false | exact .ret _
theorem Qz0(t:Nat)(x:D)(f:Nat):Pur λs K=>Qm5 tb t x f s K:=by
 unfold Qm5;split
 .split
  .split
   .split
    .exact .ite (λ_ =>.false) (λ_=>Q1s _ _)
    .exact .false
   .exact .false
  .exact .false
 .exact .false
theorem Q52(ti:TI)(x:D)(off:Nat):Pur λs K=>Q5l ti x off s K:=by
 unfold Q5l;split
 .split
  .exact .ite (λ_ =>.ret _) (λ_ =>.false)
  .split
   .exact .ret _
   .exact .false
 .exact .false
theorem Qab5(t:Nat)(x:D)(f:Nat):Pur λs K=>Q5m tb t x f s K:=by
 unfold Q5m;split
 .split
  .split
   .split
    .exact Q52 _ _ _
    .exact .false
   .exact .false
  .exact .false
 .exact .false
theorem Qz1(t:Nat)(x i:D):Pur λs K=>Qm6 tb t x i s K:=by
 unfold Qm6;split
 .split
  .split
   .exact .ex λ_ =>.and λ_ =>.and λ_ =>.and λ_ =>.and λ_ =>.ret _
   .exact .ex λ_ =>.and λ_ =>.and λ_ =>.and λ_ =>.and λ_ =>.ret _
   .exact .ex λ_ =>.and λ_ =>.and λ_ =>.and λ_ =>.ret _
   .exact .false
  .split
   .exact .and λ_ =>.and λ_=>Q1s _ _
   .exact .false
  .exact .false
 .exact .false
theorem Qab6(t:Nat)(x i:D):Pur λs K=>Q5o tb t x i s K:=by
 unfold Q5o;split
 .split
  .exact .ex λ_ =>.and λ_ =>.and λ_ =>.ret _
  .split
   .exact .and λ_ =>.and λ_=>Q52 _ _ _
   .exact .false
  .exact .false
 .exact .false
theorem Qab7(t:Nat)(x:D)(lo hi:Option D):Pur λs K=>Q5u tb t x lo hi s K:=by
 unfold Q5u;split
 .split
  .exact .and λ_ =>.ret _
  .split
   .exact .and λ_ =>.and λ_ =>.ret _
   .exact .false
  .split
   .exact .and λ_ =>.and λ_ =>.ret _
   .exact .false
  .exact .false
 .exact .false
theorem Qagk(op:BinOp)(a b:Value):Pur λs K=>aBin op a b λu=>K (.p (.v u)) s:=by
 unfold aBin;split<;>first
  | exact .false
  | exact .ret _
  | exact .and λ_ =>.ret _
  | exact .ite (λ_ =>.ret _) (λ_ =>.false)
  | exact .ite (λ_ =>.and λ_ =>.ret _) (λ_ =>.false)
theorem Q8k(op:BinOp)(t:Nat)(x y:D):Pur λs K=>Qxj tb op t x y s K:=by
 unfold Qxj;split
 .split
  .split
   .exact .ret _
   .exact .false
  .split
   .exact .ret _
   .exact .false
  .exact .false
 .exact Qagk _ _ _
 .exact .false
theorem Q2t(op:BinOp)(b:Bool):Pur λs (K:D->S->Prop)=>eqK op b λb=>K (.p (.v (.bool b))) s:=by
 unfold eqK;split<;>first | exact .ret _ | exact .false
theorem Qab8(op:BinOp)(t:Nat)(x y:D):Pur λs K=>Q5r tb op t x y s K:=by
 unfold Q5r;split
 .split
  .split
   .split
    .exact .and λ_=>Q2t _ _
    .exact .false
   .exact .false
  .exact .false
 .exact .and λ_=>Q2t _ _
 .exact .and λ_=>Q2t _ _
 .exact .and λ_=>Q2t _ _
 .exact Q8k _ _ _ _
theorem Qaip(op:UnOp)(x:D):Pur λs K=>aUn op x s K:=by
 unfold aUn; split<;>first | exact .false | exact .ret _
theorem Qagl(t:Nat)(x:D):Pur λs K=>aLen tb t x s K:=by
 unfold aLen;split
 .split<;>first | exact .false | exact .ret _
 .exact .false
theorem Q53(m:Bool)(x y z:D):Pur λs K=>Qta m x y z s K:=by
 unfold Qta; split<;>first | exact .false | exact .ret _
theorem Qxq(m:Bool)(x y:D):Pur λs K=>Quw m x y s K:=by
 unfold Quw; split<;>first | exact .false | exact .ret _
theorem Qadw(src dst:Nat)(x:D):Pur λs K=>Qadn tb src dst x s K:=by
 unfold Qadn;split
 .split
  .exact .ret _
  .exact .ret _
  .split
   .split
    .split
     .exact .ex λ_ =>.and λ_ =>.ret _
     .exact .false
    .exact .false
   .exact .false
  .split
   .split
    .split
     .exact .ex λ_ =>.and λ_ =>.ret _
     .exact .false
    .exact .false
   .exact .false
  .split
   .split
    .exact .and λ_ =>.ret _
    .exact .false
   .exact .false
  .exact .false
 .exact .false
theorem Q54(x:D)(i:Nat):Pur λs K=>Qtc x i s K:=by
 unfold Qtc;split
 .split
  .exact .ret _
  .exact .false
 .exact .false
theorem Q2u(f:Fn)(a b:Option (List D)):Pur λs K=>Qpu f a b s K:=by
 unfold Qpu; split<;>first | exact .false | exact .ret _
theorem Q2v(x:D):Pur λs K=>Qtd x s K:=by
 unfold Qtd; split<;>first | exact .false | exact .ret _ | exact .and λ_ =>.ret _
theorem Qab9(t:Nat)(ps:Option (List (Nat×D))):Pur λs K=>Q5x tb t ps s K:=by
 unfold Q5x;split
 .split
  .split
   .split
    .split
     .split
      .exact .ret _
      .exact .false
     .exact .false
    .split
     .split
      .exact .ret _
      .exact .false
     .exact .false
    .exact .false
   .exact .false
  .exact .false
 .exact .false
theorem Qz2(t:Nat)(l c:D):Pur λs K=>Qm7 tb t l c s K:=by
 unfold Qm7;split
 .split
  .split
   .split
    .split
     .exact .and λ_ =>.and λ_ =>.ret _
     .exact .false
    .exact .false
   .exact .false
  .exact .false
 .exact .false
theorem Qxr(t n:Nat)(ps:Option (List (Nat×D))):Pur λs K=>Qlc tb t n ps s K:=by
 unfold Qlc;split
 .split
  .split
   .split
    .split
     .refine .ite (λ_=>?_) (λ_ =>.false);split
      .split
       .exact .ret _
       .exact .ite (λ_ =>.ret _) (λ_ =>.false)
      .exact .false
     .exact .false
    .exact .false
   .exact .false
  .exact .false
 .exact .false
theorem Quy(ti:TI)(cs:List V):Pur λs K=>Qxg ti cs λv=>K (.p v) s:=by
 unfold Qxg;split
 .exact .ite (λ_ =>.ret _) (λ_ =>.false)
 .split
  .exact .ret _
  .exact .false
theorem Q1t(ti:TI)(cs:List D):Pur λs K=>Qxh ti cs λv=>K v s:=by
 unfold Qxh;split
 .exact .false
 .split
  .exact .ite (λ_ =>.ret _) (λ_ =>.false)
  .split
   .exact .ret _
   .exact .false
structure Fl where
 rd:Bool
 wr:Bool
 tk:Bool
def Qrk:Op->Fl
 | .load _ _=>⟨true,false,false⟩
 | .alloc _ | .box _ _ | .store _ _ _=>⟨true,true,false⟩
 | .call c=>match c.callee with
  | .builtin .append=>⟨false,false,true⟩
  | .value _=>⟨true,false,false⟩
  | _=>⟨false,false,false⟩
 | _=>⟨false,false,false⟩
def Loc(f:Fl)(X:S->(D->S->Prop)->Prop):Prop:=∀ s K,X s K->∃ d s1,K d s1/\(f.wr=false->s1.heap=s.heap)/\(f.tk=false->s1.live=s.live) /\
 ∀ (s' : S) K', (f.rd=true->s'.heap=s.heap)->(f.tk=true->s'.live=s.live)->K' d ⟨if f.wr then s1.heap else s'.heap,if f.tk then s1.live else s'.live⟩->X s' K'
theorem Pur.loc{X:S->(D->S->Prop)->Prop}(h:Pur X)(rd:Bool):Loc ⟨rd,Bool.false,Bool.false⟩ X:=λs K hx =>
 let ⟨d,h1,h2⟩:=h s K hx
 ⟨d,s,h1,λ_=>rfl,λ_=>rfl,λs' K' _ _ hk=>h2 s' K' hk⟩
theorem Loc.false(f:Fl):Loc f λ_ _=>False:=λ_ _ h=>h.elim
theorem Qagm(t:Nat)(d:D):Loc ⟨true,true,false⟩ λs K=>aBox tb t d s K:=by
 unfold aBox;split
 .intro s K h;refine⟨_,_,h,(λh=>by cases h),λ_=>rfl,λs' K' h1 _ hk=>?_⟩;have h2:=h1 rfl;simp only[h2];exact hk
 .exact .false _
theorem Qaca(t:Nat):Loc ⟨true,true,false⟩ λs K=>Qxf tb t s K:=by
 unfold Qxf;split
 .split
  .split
   .intro s K h;refine⟨_,_,h,(λh=>by cases h),λ_=>rfl,λs' K' h1 _ hk=>?_⟩;have h2:=h1 rfl;simp only[h2];exact hk
   .exact .false _
  .exact .false _
 .exact .false _
theorem Qacb(t:Nat)(x y:D):Loc ⟨true,true,false⟩ λs K=>Qvh tb t x y s K:=by
 intro s K h;unfold Qvh at h ⊢;split at h
 .rename_i ti nm off cs ht hy;split at h
  .rename_i ds hs;split at h
   rotate_left
   .exact h.elim
   rename_i hnm;split at h
   .rename_i hc;refine⟨_,_,h,(λh=>by cases h),λ_=>rfl,λs' K' h1 _ hk=>?_⟩;have h2:=h1 rfl;rw[<-h2] at hs;simp only[hs,hnm];rw[if_pos hc,h2];exact hk
   .exact h.elim
  .exact h.elim
 .exact h.elim
theorem Qagn(t:Nat)(x y:D):Loc ⟨false,false,true⟩ λs K=>aApp tb t x y s K:=by
 intro s K h;unfold aApp at h ⊢;split at h
 .rename_i ti full fs ht hy;split at h
  .rename_i e hd;split at h
   .rename_i te he;split at h
    .rename_i hz;split at h
     .rename_i tk e' sz es;split at h
      .rename_i he';obtain⟨h1,h2,h3⟩:=h;refine⟨_,_,h3,λ_=>rfl,(λh=>by cases h),λs' K' _ k2 hk=>?_⟩;have k3:=k2 rfl;simp only[hz,and_self,if_true,he', k3];exact⟨h1,h2,hk⟩
      .exact h.elim
     .rename_i es;obtain⟨h0,h1,h2,h3⟩:=h;refine⟨_,_,h3,λ_=>rfl,(λh=>by cases h),λs' K' _ k2 hk=>?_⟩;have k3:=k2 rfl;simp only[hz,and_self,if_true,k3];exact⟨h0,h1,h2,hk⟩
     .exact h.elim
    .exact h.elim
   .exact h.elim
  .exact h.elim
 .exact h.elim
theorem Qadx(t t' : Nat)(x y:D):Loc ⟨false,false,true⟩ λs K=>Qadr tb t t' x y s K:=by
 intro s K h;unfold Qadr at h ⊢;split at h
 .rename_i ti tu z ht htu;split at h
  .rename_i e hd hdu;split at h
   .rename_i te he;split at h
    .rename_i hz;split at h
     .rename_i tk e' sz es;split at h
      .rename_i he';obtain⟨h1,h2,h3⟩:=h;refine⟨_,_,h3,λ_=>rfl,(λh=>by cases h),λs' K' _ k2 hk=>?_⟩;have k3:=k2 rfl;dsimp only;rw[if_pos hz,if_pos he', k3];exact⟨h1,h2,hk⟩
      .exact h.elim
     .rename_i es;obtain⟨h0,h1,h2,h3⟩:=h;refine⟨_,_,h3,λ_=>rfl,(λh=>by cases h),λs' K' _ k2 hk=>?_⟩;have k3:=k2 rfl;dsimp only;rw[if_pos hz,k3];exact⟨h0,h1,h2,hk⟩
     .exact h.elim
    .exact h.elim
   .exact h.elim
  .exact h.elim
 .exact h.elim
theorem Qady{P:Program}(c:Call)(e:Operand->Option D):Loc ⟨true,false,false⟩ λs K=>Q5z false P c e s K:=by
 intro s K h;unfold Q5z at h ⊢;split at h
 .split at h
  .obtain⟨r,s', hc,hK⟩:=h;obtain⟨rfl,hq⟩:=hc.quiet rfl;refine⟨r,s', hK,λ_=>rfl,λ_=>rfl,λs2 K' h1 _ hk=>?_⟩;have h2:s2.heap=s'.heap:=h1 rfl;have h3:s2=⟨s'.heap,s2.live⟩:=by rw[<-h2]
   refine⟨r,s2,⟨by rw[h3]; exact hq _,λ_=>⟨rfl,λlive=>by rw[h2]; exact hq live⟩⟩,hk⟩
  .cases h.1
  .exact h.elim
 .exact h.elim
theorem Qadz{P:Program}(o:Op)(e:Operand->Option D):Loc (Qrk o) λs K=>Qf5 false P tb o e s K:=by
 unfold Qf5;split
 .rename_i c hc;have hf:Qrk o=⟨true,false,false⟩:=by
   cases o with
   | call c' =>
    simp only[Qbk] at hc;split at hc
    .rename_i f hf; simp[Qrk,hf]
    .cases hc
   | _=>cases hc
  rw[hf];exact Qady c e
 .rename_i hc;unfold aOp;split
  .split
   .exact(Pur.ret _).loc _
   .exact .false _
  .split
   .exact(Pur.ret _).loc _
   .exact .false _
  .split
   .split
    .exact(Pur.ret _).loc _
    .exact .false _
   .split
    .exact(Pur.ret _).loc _
    .exact .false _
   .exact .false _
  .exact Qaca _
  .split
   .exact Qagm _ _
   .exact .false _
  .exact(Qab9 _ _).loc _
  .exact(Qxr _ _ _).loc _
  .split
   .exact(Qz2 _ _ _).loc _
   .exact .false _
  .split
   .exact(Quy _ _).loc _
   .exact(Pur.and λ_ =>.ret _).loc _
   .intro s K h;split at h
    .rename_i ds hs;obtain⟨d,h1,h2⟩:=Q1t _ _ s K h;refine⟨d,s,h1,λ_=>rfl,λ_=>rfl,λs' K' k1 _ hk=>?_⟩;rw[<-k1 rfl] at hs;simp only[hs];exact h2 s' K' hk
    .exact h.elim
   .exact .false _
  .split
   .exact Qacb _ _ _
   .exact .false _
  .split
   .exact(Q2v _).loc _
   .exact .false _
  .split
   .exact(Qab8 _ _ _ _).loc _
   .exact .false _
  .split
   .exact(Qaip _ _).loc _
   .exact .false _
  .split
   .exact(Qadw _ _ _).loc _
   .exact .false _
  .exact(Q2u _ _ _).loc _
  .split
   .exact(Qab7 _ _ _ _).loc _
   .exact .false _
  .split
   .exact(Qz0 _ _ _).loc _
   .exact .false _
  .split
   .exact(Qab5 _ _ _).loc _
   .exact .false _
  .split
   .exact(Qz1 _ _ _).loc _
   .exact .false _
  .split
   .exact(Qab6 _ _ _).loc _
   .exact .false _
  .split
   .exact(Q54 _ _).loc _
   .exact .false _
  .split
   .rename_i hcal _ _;simp only[Qrk,hcal];exact(Qagl _ _).loc _
   .rename_i hcal _ _;simp only[Qrk,hcal];split
    .exact Qagn _ _ _
    .exact Qadx _ _ _ _
   .rename_i hcal _;simp only[Qrk,hcal];exact(Qxq _ _ _).loc _
   .rename_i hcal _;simp only[Qrk,hcal];exact(Qxq _ _ _).loc _
   .rename_i hcal _;simp only[Qrk,hcal];exact(Q53 _ _ _ _).loc _
   .exact .false _
  .exact .false _
end
section
variable {P:Program} {tb:Tbl}
theorem Qlg{e e' : Operand->Option D}:∀ (l:List Operand),(∀ x ∈ l,e x=e' x)->evs e l=evs e' l
 | [],_=>rfl
 | x::r,h=>by
  have h1:=h x (by simp);have h2:=Qlg r λy hy=>h y (by simp[hy])
  simp only[evs,h1,h2]
theorem Quz{e e' : Operand->Option D}:∀ (l:List (Nat×Operand)),(∀ x ∈ l,e x.2=e' x.2)->evps e l=evps e' l
 | [],_=>rfl
 | (i,x)::r,h=>by
  have h1:=h (i,x) (by simp);have h2:=Quz r λy hy=>h y (by simp[hy])
  simp only at h1;simp only[evps,h1,h2]
theorem Q55{e e' : Operand->Option D}(x:Option Operand)(h:∀ y ∈ x,e y=e' y):evo e x=evo e' x:=by
 cases x with
 | none=>rfl
 | some x=>simp only[evo,h x (by simp)]
theorem Q8l{gn:Bool}(o:Op){e e' : Operand->Option D}(h:∀ x ∈ o.operands.toList,e x=e' x)(s:S)(K:D->S->Prop):Qf5 gn P tb o e s K=Qf5 gn P tb o e' s K:=by
 cases o with
 | call c =>
  cases hc:c.callee with
  | value f =>
   have h1:e f=e' f:=h f (by simp[Op.operands,Call.operands,hc]);have h2:=Qlg (e:=e) (e' := e') c.args.toList λx hx=>h x (by simp[Op.operands,Call.operands,hc]; exact .inr (by simpa using hx))
   simp only[Qf5,Qbk,hc,Q5z,h1,h2]
  | invoke r m=>simp only[Qf5,Qbk,hc,aOp]
  | builtin b =>
   have h2:=Qlg (e:=e) (e' := e') c.args.toList λx hx=>h x (by simp[Op.operands,Call.operands,hc]; simpa using hx)
   simp only[Qf5,Qbk,hc,aOp,h2]
 | build t ps =>
  have h2:=Quz (e:=e) (e' := e') ps.toList λx hx=>h x.2 (by simp[Op.operands]; exact⟨x.1,by simpa using hx⟩)
  simp only[Qf5,Qbk,aOp,h2]
 | buildSlice t n ps =>
  have h2:=Quz (e:=e) (e' := e') ps.toList λx hx=>h x.2 (by simp[Op.operands]; exact⟨x.1,by simpa using hx⟩)
  simp only[Qf5,Qbk,aOp,h2]
 | makeFunc f xs ys =>
  have h1:=Qlg (e:=e) (e' := e') xs.toList λx hx=>h x (by simp[Op.operands]; exact .inl (by simpa using hx))
  have h2:=Qlg (e:=e) (e' := e') ys.toList λx hx=>h x (by simp[Op.operands]; exact .inr (by simpa using hx))
  simp only[Qf5,Qbk,aOp,h1,h2]
 | slice t x lo hi mx =>
  have h1:=h x (by simp[Op.operands]);have h2:=Q55 (e:=e) (e' := e') lo λy hy=>h y (by simp[Op.operands]; exact .inr (.inl (by simpa using hy)))
  have h3:=Q55 (e:=e) (e' := e') hi λy hy=>h y (by simp[Op.operands]; exact .inr (.inr (.inl (by simpa using hy))))
  cases mx<;>simp only[Qf5,Qbk,aOp,h1,h2,h3]
 | pick c x y =>
  have h1:=h c (by simp[Op.operands]);have h2:=h x (by simp[Op.operands]);have h3:=h y (by simp[Op.operands]);simp only[Qf5,Qbk,aOp,h1,h2,h3]
 | move x=>simp only[Qf5,Qbk,aOp,h x (by simp[Op.operands])]
 | assign x=>simp only[Qf5,Qbk,aOp,h x (by simp[Op.operands])]
 | box t x=>simp only[Qf5,Qbk,aOp,h x (by simp[Op.operands])]
 | load t x=>simp only[Qf5,Qbk,aOp,h x (by simp[Op.operands])]
 | makeSlice t x y=>simp only[Qf5,Qbk,aOp,h x (by simp[Op.operands]),h y (by simp[Op.operands])]
 | nilCheck x=>simp only[Qf5,Qbk,aOp,h x (by simp[Op.operands])]
 | unOp op t x=>simp only[Qf5,Qbk,aOp,h x (by simp[Op.operands])]
 | convert a b x=>simp only[Qf5,Qbk,aOp,h x (by simp[Op.operands])]
 | fieldAddr a x f=>simp only[Qf5,Qbk,aOp,h x (by simp[Op.operands])]
 | field a x f=>simp only[Qf5,Qbk,aOp,h x (by simp[Op.operands])]
 | extract x i=>simp only[Qf5,Qbk,aOp,h x (by simp[Op.operands])]
 | store t x y=>simp only[Qf5,Qbk,aOp,h x (by simp[Op.operands]),h y (by simp[Op.operands])]
 | binOp op t x y t' => simp only[Qf5,Qbk,aOp,h x (by simp[Op.operands]),h y (by simp[Op.operands])]
 | indexAddr t x y=>simp only[Qf5,Qbk,aOp,h x (by simp[Op.operands]),h y (by simp[Op.operands])]
 | index t x y=>simp only[Qf5,Qbk,aOp,h x (by simp[Op.operands]),h y (by simp[Op.operands])]
 | alloc t=>simp only[Qf5,Qbk,aOp]
 | _=>simp only[Qf5,Qbk,aOp]
def Eqv(σ τ : St):Prop:=(∀ t,σ.env.lookup t = τ.env.lookup t) /\ σ.s = τ.s
theorem Eqv.refl(σ : St):Eqv σ σ := ⟨λ_=>rfl,rfl⟩
theorem Eqv.trans{σ τ υ : St}(h:Eqv σ τ)(k:Eqv τ υ):Eqv σ υ := ⟨λt=>(h.1 t).trans (k.1 t),h.2.trans k.2⟩
def Qn4(ops:List Oper)(i:Nat):Option Nat:=(ops[i]?).bind (·.dst)
def Q8m(ops:List Oper)(o:Oper):List Nat :=
 (o.op.operands.toList.filterMap λ| .tmp t=>some t | _=>none)++(match o.guard with | some (j,_)=>(Qn4 ops j).toList | none=>[])
def fset(dst:Option Nat)(d:D)(env:Env):Env:=match dst with | some t=>(t,d)::env | none=>env
theorem Qth(dst:Option Nat)(d:D)(env:Env)(t:Nat):(fset dst d env).lookup t=if dst=some t then some d else env.lookup t:=by
 unfold fset;split
 .rename_i t';rw[List.lookup_cons];by_cases h:t' = t
  .subst h; simp
  .have hb:(t==t')=false:=by simpa using λe=>h e.symm
   have hne:¬ (some t' = some t):=λe=>h (Option.some.inj e)
   rw[hb,if_neg hne]
 .simp
theorem Qgp{N:Nat}{env:Env}{dst:Option Nat}{d:D}{k:Env->Prop}:putE N env dst d k↔(∀ t,dst=some t->t<N)/\k (fset dst d env):=by
 unfold putE fset;cases dst with
 | none=>simp
 | some t =>
  by_cases h:t<N
  .simp[h]
  .simp[h]
theorem Qacc{g:Bool}{d:D}{k:D->Prop}(h:Qvm g d k):k d/\∀ k' : D->Prop,k' d->Qvm g d k' := by
 refine⟨Qsg h,λk' hk=>?_⟩;unfold Qvm;split
 .rename_i b;cases b
  .exact⟨(λh=>by cases h),λ_=>hk⟩
  .exact⟨λ_=>hk,(λh=>by cases h)⟩
 .exact hk
theorem Qim{ops:List Oper}{o:Oper}{env env' : Env}(h:∀ t ∈ Q8m ops o,env.lookup t=env'.lookup t):Qzz ops env o.guard=Qzz ops env' o.guard:=by
 unfold Qzz;split
 .rfl
 .rename_i j want hg;split
  .rename_i t ht;have:t ∈ Q8m ops o:=by
    unfold Q8m;rw[hg];simp only[List.mem_append];exact .inr (by simp[Qn4,ht])
   rw[h t this]
  .rfl
theorem Qti{ops:List Oper}{o:Oper}{env env' : Env}(h:∀ t ∈ Q8m ops o,env.lookup t=env'.lookup t):∀ x ∈ o.op.operands.toList,ev env x=ev env' x:=by
 intro x hx;cases x with
 | tmp t =>
  refine h t ?_;unfold Q8m;simp only[List.mem_append,List.mem_filterMap];exact .inl ⟨.tmp t,hx,rfl⟩
 | _=>rfl
def Qamz(ops:List Oper)(i:Nat):Fl:=match ops[i]? with | some o=>Qrk o.op | none=>⟨false,false,false⟩
def Qsh(ops:List Oper)(i:Nat):List Nat:=match ops[i]? with | some o=>Q8m ops o | none=>[]
def Qtj(K:St->Prop):Prop:=∀ σ τ,Eqv σ τ -> K σ -> K τ
theorem S.ext'{a b:S}(h1:a.heap=b.heap)(h2:a.live=b.live):a=b:=by cases a; cases b; simp_all
inductive Reach (ops:List Oper):Nat->Nat->Prop where
 | one {i:Nat} {o:Oper} {e:Edge}:ops[i]? = some o->e ∈ o.after->Region.binds .any e=true->Reach ops e.on i
 | trans {a p i:Nat}:Reach ops a p->Reach ops p i->Reach ops a i
def Qoy:List Oper->List (List Nat)->List (List Nat)
 | [],acc=>acc
 | o::r,acc=>Qoy r (acc++[((((o.after.toList.filter (Region.binds .any)).map (·.on))++((o.after.toList.filter (Region.binds .any)).map (·.on)).flatMap λp=>acc.getD p []).eraseDups)])
theorem Qin{ops:List Oper}:∀ (r pre:List Oper) (acc:List (List Nat)),ops=pre++r->acc.length=pre.length->(∀ i l a,acc[i]? = some l->a ∈ l->Reach ops a i)->∀ i l a,(Qoy r acc)[i]? = some l->a ∈ l->Reach ops a i
 | [],_,acc,_,_,h=>h
 | o::r,pre,acc,hp,hl,h=>by
  refine Qin r (pre++[o]) _ (by rw[hp,List.append_assoc]; rfl) (by simp[hl]) λi l a hi ha=>?_
  by_cases hlt:i<acc.length
  .rw[List.getElem?_append_left hlt] at hi;exact h i l a hi ha
  .have hi2:i=acc.length:=by have:=(List.getElem?_eq_some_iff.1 hi).1; simp at this; omega
   subst hi2;rw[List.getElem?_concat_length] at hi;cases hi;have ho:ops[acc.length]? = some o:=by rw[hp,hl,List.getElem?_append_right (Nat.le_refl _),Nat.sub_self]; rfl
   have hone:∀ p,p ∈ (o.after.toList.filter (Region.binds .any)).map (·.on)->Reach ops p acc.length:=λp hpm=>by
    obtain⟨e,he,rfl⟩:=List.mem_map.1 hpm;rw[List.mem_filter] at he;exact .one ho (by simpa using he.1) he.2
   rw[List.mem_eraseDups,List.mem_append] at ha;rcases ha with ha | ha
   .exact hone a ha
   .obtain⟨p,hpm,hap⟩:=List.mem_flatMap.1 ha;refine .trans (h p (acc.getD p []) a ?_ hap) (hone p hpm);cases hq:acc[p]? with
    | none=>simp[List.getD,hq] at hap
    | some l=>simp[List.getD,hq]
def Down(ops:List Oper)(listed:Array Bool):Prop:=∀ i o,ops[i]? = some o->listed.getD i true=true->∀ e ∈ o.after,Region.binds .any e=true->listed.getD e.on false=true
theorem Down.reach{ops:List Oper}{listed:Array Bool}(hs:listed.size=ops.length)(hd:Down ops listed){a i:Nat}(h:Reach ops a i):(∀ o,ops[i]? = some o->(∀ e ∈ o.after,Region.binds .any e=true->listed.getD e.on false=true))->listed.getD a false=true:=by
 induction h with
 | one ho he hb=>exact λk=>k _ ho _ he hb
 | @trans a p i h1 h2 ih1 ih2 =>
  intro k;have hp:=ih2 k;refine ih1 λo ho e he hb=>hd p o ho ?_ e he hb
  have hlt:p<listed.size:=by rw[hs]; exact(List.getElem?_eq_some_iff.1 ho).1
  simp only[Array.getD_eq_getD_getElem?,Array.getElem?_eq_getElem hlt,Option.getD_some] at hp ⊢;exact hp
end
def Q2w:List Nat->Env->Env
 | [],_=>[]
 | t::r,env=>match env.lookup t with
  | some d=>(t,d)::Q2w r env
  | none=>Q2w r env
def Qaam(n:Nat)(K:Nat->Prop):Prop:=match n with
 | 0=>K 0
 | n+1=>Qaam n λm=>K (m+1)
def Qah2(d:D)(K:D->Prop):Prop:=match d with
 | .p x=>K (.p x)
 | .ptr n o=>Qaam n λn=>K (.ptr n o)
 | d=>K d
def Qaan(l:Env)(K:Env->Prop):Prop:=match l with
 | []=>K []
 | (t,d)::r=>Qah2 d λd=>Qaan r λr=>K ((t,d)::r)
def Qaao(l:List (List D))(K:List (List D)->Prop):Prop:=match l with
 | []=>K []
 | d::r=>Qaao r λr=>K (d::r)
def Qago(σ : St)(K:St->Prop):Prop:=Qaan σ.env λenv=>Qaao σ.s.heap λheap=>K ⟨env,⟨heap,σ.s.live⟩⟩
theorem Q56:∀ (n:Nat) (K:Nat->Prop),Qaam n K=K n
 | 0,_=>rfl
 | n+1,K=>by rw[Qaam,Q56 n]
theorem Qad0(d:D)(K:D->Prop):Qah2 d K=K d:=by
 cases d with
 | ptr n o=>exact Q56 n _
 | _=>rfl
theorem Q57:∀ (l:Env) (K:Env->Prop),Qaan l K=K l
 | [],_=>rfl
 | (t,d)::r,K=>by rw[Qaan,Qad0,Q57 r]
theorem Q58:∀ (l:List (List D)) (K:List (List D)->Prop),Qaao l K=K l
 | [],_=>rfl
 | d::r,K=>by rw[Qaao,Q58 r]
theorem Q2x(σ : St)(K:St->Prop):Qago σ K=K σ := by rw[Qago,Q57,Q58]
def keep(l:Option (List Nat))(σ : St):St:=match l with | some l=>⟨Q2w l σ.env,σ.s⟩ | none => σ
theorem Qu0:∀ (l:List Nat) (env:Env) (t:Nat) (d:D),(Q2w l env).lookup t=some d->env.lookup t=some d
 | [],env,t,d,h=>by simp[Q2w] at h
 | x::r,env,t,d,h=>by
  unfold Q2w at h;split at h
  .rename_i d' hd;rw[List.lookup_cons] at h;by_cases hx:t=x
   .subst hx;simp only[beq_self_eq_true,Option.some.injEq] at h;rw[hd,h]
   .have hb:(t==x)=false:=by simpa using hx
    rw[hb] at h;exact Qu0 r env t d h
  .exact Qu0 r env t d h
theorem Qlh:∀ (l:List Nat) {e e' : Env},(∀ t,e.lookup t=e'.lookup t)->Q2w l e=Q2w l e'
 | [],_,_,_=>rfl
 | x::r,e,e', h=>by
  unfold Q2w;rw[h x,Qlh r h]
theorem Qf6{N:Nat}{G:Gh}{σ : St}{a:Act}{w:World}(h:Rel N G σ a w)(l:Option (List Nat)):Rel N G (keep l σ) a w:=by
 unfold keep;split
 .exact⟨h.inv,λt d hd=>h.env t d (Qu0 _ _ t d hd),h.size⟩
 .exact h
section
variable {P:Program} {tb:Tbl}
def Ql6(b:Nat):Deferred:={ target :=.collected b,args := #[] }
structure Lo where
 n:Nat
 db:List Deferred
structure Fr (rd:Option Nat) (lo:Lo) (G:Gh) (a:Act) (w:World):Prop where
 marks:∃ Ds:List Nat,a.defers=Ds.map Ql6++lo.db/\Ds.Nodup/\∀ b ∈ Ds,lo.n<=b/\w.heap[b]? = some (.deferred (some []))/\b ∉ G.name/\∀ T ∈ G.tok,¬ T.has b
 round:∀ l,rd=some l->(∃ r,w.heap[l]? = some (.loop r))/\l ∉ G.name/\∀ T ∈ G.tok,¬ T.has l
 size:lo.n<=w.heap.size
theorem Ext.stays{G G' : Gh}{w w' : World}(h:Ext G w G' w'){b:Nat}{o:Obj}(hb:w.heap[b]? = some o)(hn:b ∉ G.name)(ht:∀ T ∈ G.tok,¬ T.has b):w'.heap[b]? = some o/\b ∉ G'.name/\∀ T ∈ G'.tok,¬ T.has b:=by
 have hlt:=(Array.getElem?_eq_some_iff.1 hb).1;refine⟨by rw[h.old b hlt hn ht]; exact hb,λhm=>?_,λT hT hh=>?_⟩
 .rcases h.mine b (.inl hm) with k | k | ⟨T,k,k2⟩
  .omega
  .exact hn k
  .exact ht T k k2
 .rcases h.mine b (.inr ⟨T,hT,hh⟩) with k | k | ⟨T,k,k2⟩
  .omega
  .exact hn k
  .exact ht T k k2
theorem Fr.ext{rd:Option Nat}{lo:Lo}{G G' : Gh}{a a' : Act}{w w' : World}(h:Fr rd lo G a w)(k:Ext G w G' w')(hd:a'.defers=a.defers):Fr rd lo G' a' w' := by
 obtain⟨Ds,h1,h2,h3⟩:=h.marks;refine⟨⟨Ds,by rw[hd]; exact h1,h2,λb hb=>?_⟩,λl hl=>?_,Nat.le_trans h.size k.size⟩
 .obtain⟨k1,k2,k3,k4⟩:=h3 b hb;exact⟨k1,k.stays k2 k3 k4⟩
 .obtain⟨⟨r,k2⟩,k3,k4⟩:=h.round l hl;obtain⟨g1,g2⟩:=k.stays k2 k3 k4;exact⟨⟨r,g1⟩,g2⟩
theorem Fr.none{G:Gh}{a:Act}{w:World}(ha:a.defers=[]):Fr Option.none ⟨w.heap.size,[]⟩ G a w:=⟨⟨[],ha,List.nodup_nil,λ_ h=>(nomatch h)⟩,λ_ h=>(nomatch h),Nat.le_refl _⟩
structure T (B:Nat×Nat) (P:Program) (N:Nat) (c:Code) (Q:Exit->St->Prop) (σ : St):Prop where
 out:∀ rd lo G a w,Rel N G σ a w->Fr rd lo G a w->c.wpIn (FW rd) 0 P (λe a' w' => ∃ G' σ', Ex B G w G' w' /\ Rel N G' σ' a' w' /\ Fr rd lo G' a' w' /\ Q e σ') a w
def Qhn:Code->Nat
 | .region id _ _=>id
 | .seq a b=>min (Qhn a) (Qhn b)
 | .cond _ a b=>min (Qhn a) (Qhn b)
 | .block _ b=>Qhn b
 | .loop b=>Qhn b
 | .rangeFunc _ _ a b=>min (Qhn a) (Qhn b)
 | _=>1000000
theorem Qah3{B:Nat×Nat}{N:Nat}{c:Code}{Q:Exit->St->Prop}{σ : St}(l:Option (List Nat))(h:T B P N c Q (keep l σ)):T B P N c Q σ := ⟨λrd lo G a w hR hF=>h.out rd lo G a w (Qf6 hR l) hF⟩
structure Le (B:Nat×Nat) (N:Nat) (σ τ : St):Prop where
 out:∀ G a w,Rel N G σ a w->∃ G', Ex B G w G' w/\Rel N G' τ a w
theorem Le.refl(B:Nat×Nat)(N:Nat)(σ : St):Le B N σ σ := ⟨λG _ w hR=>⟨G,.refl B G w,hR⟩⟩
theorem Le.trans{B:Nat×Nat}{N:Nat}{σ τ υ : St}(h:Le B N σ τ)(k:Le B N τ υ):Le B N σ υ := ⟨λG a w hR=>by
 obtain⟨G1,e1,r1⟩:=h.out G a w hR;obtain⟨G2,e2,r2⟩:=k.out G1 a w r1;exact⟨G2,e1.trans e2,r2⟩⟩
theorem Qk4{B:Nat×Nat}{N:Nat}{c:Code}{Q:Exit->St->Prop}{σ τ : St}(h:Le B N σ τ)(k:T B P N c Q τ):T B P N c Q σ := ⟨λrd lo G a w hR hF=>by
 obtain⟨G1,e1,r1⟩:=h.out G a w hR;exact wpIn_mono (k.out rd lo G1 a w r1 (hF.ext e1.ext rfl)) λe a' w' ⟨G', σ', hE,hR', hF', hq⟩=>⟨G', σ', e1.trans hE,hR', hF', hq⟩⟩
def Qaiq:V->V
 | .sl _ es =>.sl false es
 | x=>x
theorem Q59{C:Nat->Nat->Prop}{w:World}{x:V}{u:Value}(h:VRel C w x u):VRel C w (Qaiq x) u:=by
 cases h with
 | sl full es a cap size b off us g1 g2 g3 g4 g5 g6 g7 g8=>exact .sl false es a cap size b off us g1 g2 (λh=>by cases h) g4 g5 g6 g7 (λh=>by cases h)
 | v u h=>exact .v u h
 | agg cs us h1 h2 h3=>exact .agg cs us h1 h2 h3
 | ep cs b off us h1 h2=>exact .ep cs b off us h1 h2
 | opt b cs u h1 h2=>exact .opt b cs u h1 h2
def Qam0:Env->Option Env
 | []=>some []
 | (t,d)::r=>match unp d,Qam0 r with
  | some x,some l=>some ((t,.p (Qaiq x))::l)
  | _,_=>none
def setE:Env->Nat->D->Env
 | [],_,_=>[]
 | (t,d)::r,t', d' => if t=t' then(t,d')::r else(t,d)::setE r t' d'
theorem Qpx:∀ (env:Env) (t:Nat) (d:D) (t' : Nat) (d' : D),(setE env t d).lookup t' = some d' -> (env.lookup t' = some d' /\ t' ≠ t)\/(t' = t/\d' = d)
 | [],_,_,_,_,h=>by simp[setE] at h
 | (t0,d0)::r,t,d,t', d', h=>by
  unfold setE at h;split at h
  .rename_i ht;subst ht;rw[List.lookup_cons] at h ⊢;by_cases h2:t' = t0
   .subst h2;simp only[beq_self_eq_true,Option.some.injEq] at h;exact .inr ⟨rfl,h.symm⟩
   .have hb:(t' == t0)=false:=by simpa using h2
    rw[hb] at h ⊢;exact .inl ⟨h,h2⟩
  .rename_i ht;rw[List.lookup_cons] at h ⊢;by_cases h2:t' = t0
   .subst h2;simp only[beq_self_eq_true,Option.some.injEq] at h ⊢;exact .inl ⟨h,ht⟩
   .have hb:(t' == t0)=false:=by simpa using h2
    rw[hb] at h ⊢;exact Qpx r t d t' d' h
theorem Le.own{B:Nat×Nat}{N:Nat}{env:Env}{s:S}(t e size:Nat){es:List (List V)}(h:env.lookup t=some (.p (.sl true es)))(hs:∀ x ∈ es,x.length=size)(h0:es=[]:=by exact rfl) :
  Le B N ⟨env,s⟩ ⟨setE env t (.own s.live.length e size es),⟨s.heap,s.live++[es.length]⟩⟩:=⟨λG a w hR=>by
 obtain⟨s1,s2⟩:=Qk3 hR.inv es.length;refine⟨_,s1.ex B,⟨s2,λt' d' hd=>?_,hR.size⟩⟩;rcases Qpx _ _ _ _ _ hd with ⟨hd,-⟩ | ⟨rfl,rfl⟩
 .obtain⟨k1,k2⟩:=hR.env t' d' hd;exact⟨k1,k2.mono s1⟩
 .obtain⟨k1,k2⟩:=hR.env t' _ h;refine⟨k1,?_⟩;generalize a.tmps.getD t' undef=u at k2;have hlive:G.tok.length=s.live.length:=by rw[<-hR.inv.live]; simp
  cases k2 with
  | p _ u hx =>
   obtain⟨ad,cap,rfl,c1,c2,c3,c4⟩:=hx.isSlice;have hx' : VRel G.com w (.sl false es) (.slice ad es.length cap):=by
    cases hx with
    | sl _ _ _ _ size b off us g1 g2 g3 g4 g5 g6 g7 g8=>exact .sl false es ad cap size b off us g1 g2 (λh=>by cases h) g4 g5 g6 g7 (λh=>by cases h)
   exact .own _ _ _ _ _ ⟨es.length,none,0,none⟩ hx' hs (by rw[<-hlive]; exact List.getElem?_concat_length) rfl (Nat.le_refl _) (λ_=>⟨ad,cap,rfl,.inl ⟨by rw[c3 rfl,h0]; rfl,c4 rfl⟩⟩)⟩
theorem Le.ownW{B:Nat×Nat}{N:Nat}{env:Env}{s:S}(t e size:Nat){es:List (List V)}(h:env.lookup t=some (.p (.sl true es)))(hs:∀ x ∈ es,x.length=size) :
  Le B N ⟨env,s⟩ ⟨setE env t (.own s.live.length (e+1000000) size es),⟨s.heap,s.live++[es.length]⟩⟩:=⟨λG a w hR=>by
 obtain⟨s1,s2⟩:=Qk3 hR.inv es.length;refine⟨_,s1.ex B,⟨s2,λt' d' hd=>?_,hR.size⟩⟩;rcases Qpx _ _ _ _ _ hd with ⟨hd,-⟩ | ⟨rfl,rfl⟩
 .obtain⟨k1,k2⟩:=hR.env t' d' hd;exact⟨k1,k2.mono s1⟩
 .obtain⟨k1,k2⟩:=hR.env t' _ h;refine⟨k1,?_⟩;generalize a.tmps.getD t' undef=u at k2;have hlive:G.tok.length=s.live.length:=by rw[<-hR.inv.live]; simp
  cases k2 with
  | p _ u hx =>
   obtain⟨ad,cap,rfl,c1,c2,c3,c4⟩:=hx.isSlice;have hx' : VRel G.com w (.sl false es) (.slice ad es.length cap):=by
    cases hx with
    | sl _ _ _ _ size b off us g1 g2 g3 g4 g5 g6 g7 g8=>exact .sl false es ad cap size b off us g1 g2 (λh=>by cases h) g4 g5 g6 g7 (λh=>by cases h)
   exact .own _ _ _ _ _ ⟨es.length,none,0,none⟩ hx' hs (by rw[<-hlive]; exact List.getElem?_concat_length) rfl (Nat.le_refl _) (λ_=>⟨ad,cap,rfl,.inr (.inr ⟨Nat.le_add_left _ _,c3 rfl⟩)⟩)⟩
theorem w64{n:Int}(h1 : -9223372036854775808<=n)(h2:n<=9223372036854775807):IntKind.i64.wrap n=n:=IntWalk.i64_in n ⟨h1,h2⟩
def Qv7:List V->Nat->Env
 | [],_=>[]
 | x::r,i=>(i,.p x)::Qv7 r (i+1)
def Qgh(tb:Tbl)(σ : St):List ResultVar->(List D->Prop)->Prop
 | [],K=>K []
 | .tmp t::r,K=>match σ.env.lookup t with
  | some d=>Qgh tb σ r λl=>K (d::l)
  | none=>False
 | .cell t ty::r,K=>match σ.env.lookup t,tb.lookup ty with
  | some (.ptr nm off),some ti=>match σ.s.heap[nm]? with
   | some ds=>Qxh ti (ds.drop off) λd=>Qgh tb σ r λl=>K (d::l)
   | none=>False
  | _,_=>False
def retD:List D->Option D
 | [d]=>(unp d).map .p
 | ds=>(unps ds).map λxs =>.tup (xs.map .p)
def retQ(tb:Tbl)(rs:List ResultVar)(R:D->Prop)(e:Exit)(σ : St):Prop :=
 match e with
 | .normal=>Qgh tb σ rs λds=>match retD ds with | some d=>R d | none=>False
 | .ret=>Qgh tb σ rs λds=>match retD ds with | some d=>R d | none=>False
 | _=>False
theorem Qq3:∀ (xs:List V) (i t:Nat) (d:D),(Qv7 xs i).lookup t=some d->∃ x,xs[t-i]? = some x/\i<=t/\d = .p x
 | [],_,_,_,h=>by simp[Qv7] at h
 | x::r,i,t,d,h=>by
  unfold Qv7 at h;rw[List.lookup_cons] at h;by_cases ht:t=i
  .subst ht;simp only[beq_self_eq_true,Option.some.injEq] at h;exact⟨x,by simp,Nat.le_refl _,h.symm⟩
  .have hb:(t==i)=false:=by simpa using ht
   rw[hb] at h;obtain⟨y,h1,h2,h3⟩:=Qq3 r (i+1) t d h;refine⟨y,?_,by omega,h3⟩;rw[show t-i=(t-(i+1))+1 by omega,List.getElem?_cons_succ]; exact h1
theorem Qfp(hT:TblOk P tb){N:Nat}{G:Gh}{σ : St}{a:Act}{w:World}(hR:Rel N G σ a w):∀ (rs:List ResultVar) (K:List D->Prop),Qgh tb σ rs K ->
  ∃ ds us,(rs.mapM λ(r:ResultVar)=>(match r with | .tmp t=>pure (a.tmps.getD t undef) | .cell p t=>do loadVar t (<-asAddr (a.tmps.getD p undef)):Sem Value)).run P w = .ok us w/\us.length=ds.length/\(∀ (j:Nat) d u,ds[j]? = some d->us[j]? = some u->DRel G w d u)/\K ds
 | [],K,h=>⟨[],[],rfl,rfl,λj d u h=>by simp at h,h⟩
 | .tmp t::r,K,h=>by
  unfold Qgh at h;split at h
  .rename_i d hd;obtain⟨ds,us,h1,h2,h3,h4⟩:=Qfp hT hR r _ h;refine⟨d::ds,a.tmps.getD t undef::us,by rw[List.mapM_cons,Sem.run_bind,Sem.run_pure,Result.andThen_ok,Sem.run_bind,h1]; rfl,by simp[h2],λj d' u hj hu=>?_,h4⟩;cases j with
   | zero=>simp only[List.getElem?_cons_zero,Option.some.injEq] at hj hu; subst hj; subst hu; exact(hR.env t _ hd).2
   | succ j=>exact h3 j d' u hj hu
  .exact h.elim
 | .cell t ty::r,K,h=>by
  unfold Qgh at h;split at h
  .rename_i nm off ti hd hti;split at h
   .rename_i ds0 hs;have hp:=(hR.env t _ hd).2;obtain⟨v,d,hr,hdr,hK⟩:=Q1l hT hR.inv hti hp hs h;obtain⟨ds,us,h1,h2,h3,h4⟩:=Qfp hT hR r _ hK;have hrun:(do loadVar ty (<-asAddr (a.tmps.getD t undef)):Sem Value).run P w = .ok v w:=by
     generalize a.tmps.getD t undef=q at hp hr;cases hp;simpa [asAddr,Instr.loadAt,Instr.sureAddr] using hr
    refine⟨d::ds,v::us,?_,by simp[h2],λj d' u hj hu=>?_,h4⟩
    .rw[List.mapM_cons,Sem.run_bind,hrun,Result.andThen_ok,Sem.run_bind,h1];rfl
    .cases j with
     | zero=>simp only[List.getElem?_cons_zero,Option.some.injEq] at hj hu; subst hj; subst hu; exact hdr
     | succ j=>exact h3 j d' u hj hu
   .exact h.elim
  .exact h.elim
theorem Qakr{G:Gh}{w:World}{d:D}{u:Value}{x:V}(h:DRel G w d u)(hd:unp d=some x):DRel G w (.p x) u :=.p x u (Qfe h hd)
theorem Q2y{G:Gh}{w:World}{ds:List D}{us:List Value}(hl:us.length=ds.length)(h:∀ (j:Nat) d u,ds[j]? = some d->us[j]? = some u->DRel G w d u){r:D}(hr:retD ds=some r) :
  DRel G w r (if h:us.toArray.size=1 then us.toArray[0] else .tuple us.toArray)/\((∃ x,r = .p x)\/∃ xs:List V,r = .tup (xs.map .p)):=by
 unfold retD at hr;split at hr
 .rename_i d;obtain⟨x,hx,rfl⟩:=Option.map_eq_some_iff.1 hr
  match us,hl with
  | [u],_=>exact⟨Qakr (h 0 d u rfl rfl) hx,.inl ⟨x,rfl⟩⟩
 .rename_i hne;obtain⟨xs,hx,rfl⟩:=Option.map_eq_some_iff.1 hr;obtain⟨u1,u2⟩:=Qhm (G:=G) (w:=w) ds xs hx;refine⟨?_,.inr ⟨xs,rfl⟩⟩;have hsz:¬ us.toArray.size=1:=by
   simp only[List.size_toArray,hl];intro h1
   match ds,h1 with
   | [d],_=>exact hne d rfl
  rw[dif_neg hsz];refine .tup _ _ (by simp[u1,hl]) (λj c u hc hu=>?_);rw[List.getElem?_map] at hc;obtain⟨x,hx', rfl⟩:=Option.map_eq_some_iff.1 hc;obtain⟨d,hd,hxd⟩:=u2 j x hx';exact Qakr (h j d u hd (by simpa using hu)) hxd
end
def D.lt1(k m:Nat):D->Bool
 | .p _=>true
 | .undef=>true
 | .ptr nm _=>decide (nm<k)
 | .own t _ _ _=>decide (t<m)
 | .yld _ t _=>decide (t<m)
 | .sp _ _ _ nm _=>decide (nm<k)
 | .x t _ _=>decide (t<m)
 | .mh nm=>decide (nm<k)
 | .fn _ _ _ | .agg _ | .tup _ | .sf _ | .ef _=>false
def D.ltF(k m:Nat):D->Bool
 | .fn _ a b=>a.all (D.lt1 k m)&&b.all (D.lt1 k m)
 | d=>D.lt1 k m d
def D.lt(k m:Nat):D->Bool
 | .fn _ a b=>a.all (D.lt1 k m)&&b.all (D.lt1 k m)
 | .agg a=>a.all (D.lt1 k m)
 | .tup a=>a.all (D.lt1 k m)
 | .sf a=>a.all (D.ltF k m)
 | .ef d=>D.ltF k m d
 | d=>D.lt1 k m d
def Gh.trunc(G:Gh)(k m:Nat):Gh:=⟨G.com,G.name.take k,G.tok.take m⟩
theorem Qn5{α : Type}{l:List α}{k i:Nat}{x : α}(h:l[i]? = some x)(hi:i<k):(l.take k)[i]? = some x:=by rw[List.getElem?_take,if_pos hi]; exact h
theorem Qwx{α : Type}{l:List α}{k i:Nat}{x : α}(h:(l.take k)[i]? = some x):l[i]? = some x/\i<k:=by
 rw[List.getElem?_take] at h;split at h
 .exact⟨h,by assumption⟩
 .cases h
theorem DRel.trunc1{G:Gh}{w:World}{d:D}{u:Value}{k m:Nat}(h:DRel G w d u)(hl:d.lt1 k m=true):DRel (G.trunc k m) w d u:=by
 cases h with
 | p x u h=>exact .p x u h
 | undef=>exact .undef
 | ptr nm off b hb=>exact .ptr nm off b (Qn5 hb (of_decide_eq_true hl))
 | yld t T p h1 h2=>exact .yld t T p (Qn5 h1 (of_decide_eq_true hl)) h2
 | sp P u b nm off i e n v h1 h2 h3 h4 h5 h6=>exact .sp P u b nm off i e n _ (Qn5 h1 (of_decide_eq_true hl)) h2 h3 h4 h5 h6
 | x t v X u T h1 h0 h2 h3 h4=>exact .x t v X u T (Qn5 h1 (of_decide_eq_true hl)) h0 h2 h3 h4
 | mh nm b hb=>exact .mh nm b (Qn5 hb (of_decide_eq_true hl))
 | own t e size es u T h1 h2 h3 h0 h4 h5 =>
  have ht:t<m:=of_decide_eq_true hl;refine .own t e size es u T h1 h2 (Qn5 h3 ht) h0 h4 λhe=>?_
  obtain⟨a,cap,rfl,h6⟩:=h5 he;refine⟨a,cap,rfl,h6.imp id (Or.imp_left ?_)⟩;rintro ⟨b,us,T2,ha,g1,g⟩;exact⟨b,us,T2,ha,Qn5 g1 ht,g⟩
 | fn f a b us vs=>cases hl
 | agg a us=>cases hl
 | tup a us=>cases hl
 | sf ds b us=>cases hl
 | ef d b off u=>cases hl
theorem DRel.truncF{G:Gh}{w:World}{d:D}{u:Value}{k m:Nat}(h:DRel G w d u)(hl:d.ltF k m=true):DRel (G.trunc k m) w d u:=by
 cases h with
 | p x u h=>exact .p x u h
 | undef=>exact .undef
 | ptr nm off b hb=>exact DRel.trunc1 (.ptr nm off b hb) hl
 | yld t T p h1 h2=>exact DRel.trunc1 (.yld t T p h1 h2) hl
 | sp P u b nm off i e n v h1 h2 h3 h4 h5 h6=>exact DRel.trunc1 (.sp P u b nm off i e n _ h1 h2 h3 h4 h5 h6) hl
 | x t v X u T h1 h0 h2 h3 h4=>exact DRel.trunc1 (.x t v X u T h1 h0 h2 h3 h4) hl
 | mh nm b hb=>exact DRel.trunc1 (.mh nm b hb) hl
 | own t e size es u T h1 h2 h3 h0 h4 h5=>exact DRel.trunc1 (.own t e size es u T h1 h2 h3 h0 h4 h5) hl
 | fn f a b us vs h1 h2 h3 h4 =>
  simp only[D.ltF,Bool.and_eq_true,List.all_eq_true] at hl;exact .fn f a b us vs h1 h2 (λj c u hc hu=>(h3 j c u hc hu).trunc1 (hl.1 c (List.mem_of_getElem? hc))) (λj c u hc hu=>(h4 j c u hc hu).trunc1 (hl.2 c (List.mem_of_getElem? hc)))
 | agg a us=>cases hl
 | tup a us=>cases hl
 | sf ds b us=>cases hl
 | ef d b off u=>cases hl
theorem DRel.trunc{G:Gh}{w:World}{d:D}{u:Value}{k m:Nat}(h:DRel G w d u)(hl:d.lt k m=true):DRel (G.trunc k m) w d u:=by
 cases h with
 | p x u h=>exact .p x u h
 | undef=>exact .undef
 | ptr nm off b hb=>exact DRel.trunc1 (.ptr nm off b hb) hl
 | yld t T p h1 h2=>exact DRel.trunc1 (.yld t T p h1 h2) hl
 | sp P u b nm off i e n v h1 h2 h3 h4 h5 h6=>exact DRel.trunc1 (.sp P u b nm off i e n _ h1 h2 h3 h4 h5 h6) hl
 | x t v X u T h1 h0 h2 h3 h4=>exact DRel.trunc1 (.x t v X u T h1 h0 h2 h3 h4) hl
 | mh nm b hb=>exact DRel.trunc1 (.mh nm b hb) hl
 | own t e size es u T h1 h2 h3 h0 h4 h5=>exact DRel.trunc1 (.own t e size es u T h1 h2 h3 h0 h4 h5) hl
 | fn f a b us vs h1 h2 h3 h4 =>
  simp only[D.lt,Bool.and_eq_true,List.all_eq_true] at hl;exact .fn f a b us vs h1 h2 (λj c u hc hu=>(h3 j c u hc hu).trunc1 (hl.1 c (List.mem_of_getElem? hc))) (λj c u hc hu=>(h4 j c u hc hu).trunc1 (hl.2 c (List.mem_of_getElem? hc)))
 | agg a us h1 h2 h3 =>
  simp only[D.lt,List.all_eq_true] at hl;exact .agg a us h1 h2 (λj c u hc hu=>(h3 j c u hc hu).trunc1 (hl c (List.mem_of_getElem? hc)))
 | tup a us h1 h3 =>
  simp only[D.lt,List.all_eq_true] at hl;exact .tup a us h1 (λj c u hc hu=>(h3 j c u hc hu).trunc1 (hl c (List.mem_of_getElem? hc)))
 | sf ds b us h1 h2 =>
  simp only[D.lt,List.all_eq_true] at hl;exact .sf ds b us h1 (λi d hd=>(h2 i d hd).truncF (hl d (List.mem_of_getElem? hd)))
 | ef d b off u h1 h2 h3=>exact .ef d b off u h1 h2 (h3.truncF hl)
theorem Inv.trunc{G:Gh}{s:S}{w:World}(h:Inv G s w)(k m:Nat)(hl:∀ cs ∈ s.heap.take k,∀ c ∈ cs,c.lt k m=true):Inv (G.trunc k m) ⟨s.heap.take k,s.live.take m⟩ w:=by
 refine⟨λb o hc=>?_,?_,?_,λi b cs hb hcs=>?_,?_,λt T b hT hb=>?_,λT hT=>h.pro T (List.mem_of_mem_take hT),h.glob⟩
 .obtain⟨h1,h2,h3⟩:=h.com b o hc;exact⟨h1,λhm=>h2 (List.mem_of_mem_take hm),λT hT=>h3 T (List.mem_of_mem_take hT)⟩
 .show(G.name.take k).length=(s.heap.take k).length;rw[List.length_take,List.length_take,h.names]
 .exact h.nodup.sublist (List.take_sublist _ _)
 .obtain⟨hb,hi⟩:=Qwx hb;cases h.var i b cs hb (Qwx hcs).1 with
  | cells us ty h1 h2 h3=>exact .cells us ty h1 h2 λj c u hc hu=>⟨(h3 j c u hc hu).1,(h3 j c u hc hu).2.trunc (hl cs (List.mem_of_getElem? hcs) c (List.mem_of_getElem? hc))⟩
  | map fl ms es clock h1 h2 h3=>exact .map fl ms es clock h1 h2 h3
 .show(G.tok.take m).map (·.len)=s.live.take m;rw[List.map_take,h.live]
 .obtain⟨hT,ht⟩:=Qwx hT;obtain⟨h1,h2,h3⟩:=h.tok t T b hT hb;exact⟨h1,λhm=>h2 (List.mem_of_mem_take hm),λt' T' hT' hb' => h3 t' T' (Qwx hT').1 hb'⟩
def Qagp(k m:Nat)(d:D):Option D:=match d.lt k m with
 | true=>some d
 | false=>(unp d).map λx =>.p (Qaiq x)
def Q2z(k m:Nat):Env->Option Env
 | []=>some []
 | (t,d)::r=>match Qagp k m d,Q2z k m r with
  | some x,some l=>some ((t,x)::l)
  | _,_=>none
theorem Q1u{k m:Nat}:∀ (env env' : Env),Q2z k m env=some env' -> ∀ t d', env'.lookup t=some d' -> ∃ d,env.lookup t=some d/\Qagp k m d=some d'
 | [],env', h,t,d', h' => by simp[Q2z] at h; subst h; simp at h'
 | (t0,d)::r,env', h,t,d', h' => by
  unfold Q2z at h;split at h
  .rename_i x l hx hl;cases h;rw[List.lookup_cons] at h' ⊢;by_cases ht:t=t0
   .subst ht;simp only[beq_self_eq_true,Option.some.injEq] at h' ⊢;exact⟨d,rfl,by rw[hx,h']⟩
   .have hb:(t==t0)=false:=by simpa using ht
    rw[hb] at h' ⊢;exact Q1u r l hl t d' h'
  .cases h
theorem Qad1{G:Gh}{w:World}{k m:Nat}{d d' : D}{u:Value}(h:DRel G w d u)(hd:Qagp k m d=some d'):DRel (G.trunc k m) w d' u:=by
 unfold Qagp at hd;split at hd
 .rename_i hl; cases hd; exact h.trunc hl
 .obtain⟨x,hx,rfl⟩:=Option.map_eq_some_iff.1 hd;exact .p _ _ (Q59 (show VRel G.com w x _ from Qfe h hx))
theorem Qagq{G:Gh}{w:World}(k m:Nat):Ex (k,m) G w (G.trunc k m) w :=
 ⟨⟨rfl,rfl,rfl,Nat.le_refl _,λ_ _ _ h k=>⟨h,k⟩,λ_ _ _ _=>rfl,λ_ _ h =>.inl h,λb hb=>by
  rcases hb with hb | ⟨T,hT,hb⟩
  .exact .inr (.inl (List.mem_of_mem_take hb))
  .exact .inr (.inr ⟨T,List.mem_of_mem_take hT,hb⟩),λ_ _ h=>h,.refl w⟩,λnm b hl hb=>Qn5 hb hl,λt T hl hT=>⟨T,Qn5 hT hl,.refl T,λ_=>⟨rfl,λ_ _=>rfl⟩⟩⟩
theorem Ex.le{B B' : Nat×Nat}{G G' : Gh}{w w' : World}(h:Ex B G w G' w')(h1:B'.1<=B.1)(h2:B'.2<=B.2):Ex B' G w G' w' :=
 ⟨h.ext,λnm b hl hb=>h.name nm b (by omega) hb,λt T hl hT=>h.tok t T (by omega) hT⟩
theorem Le.to(k m:Nat){B:Nat×Nat}{N:Nat}{env:Env}{s:S}{τ : St}(h:(Q2z k m env).map (λe=>St.mk e ⟨s.heap.take k,s.live.take m⟩)=some τ)(h1:B.1<=k:=by exact Nat.le_of_ble_eq_true rfl)(h2:B.2<=m:=by exact Nat.le_of_ble_eq_true rfl)
  (hl:(s.heap.take k).all (λcs=>cs.all (D.lt k m))=true:=by exact rfl):Le B N ⟨env,s⟩ τ := ⟨λG a w hR=>by
 obtain⟨env', he,rfl⟩:=Option.map_eq_some_iff.1 h;refine⟨G.trunc k m,(Qagq k m).le h1 h2,⟨hR.inv.trunc k m ?_,λt d' hd=>?_,hR.size⟩⟩
 .simp only[List.all_eq_true] at hl;exact hl
 .obtain⟨d,h1,h2⟩:=Q1u env env' he t d' hd;obtain⟨k1,k2⟩:=hR.env t d h1;exact⟨k1,Qad1 k2 h2⟩⟩
def Qsi:List D->Nat->Env
 | [],_=>[]
 | x::r,i=>(i,x)::Qsi r (i+1)
theorem Qm8:∀ (xs:List D) (i t:Nat) (d:D),(Qsi xs i).lookup t=some d->xs[t-i]? = some d/\i<=t
 | [],_,_,_,h=>by simp[Qsi] at h
 | x::r,i,t,d,h=>by
  unfold Qsi at h;rw[List.lookup_cons] at h;by_cases ht:t=i
  .subst ht;simp only[beq_self_eq_true,Option.some.injEq] at h;subst h;exact⟨by simp,Nat.le_refl _⟩
  .have hb:(t==i)=false:=by simpa using ht
   rw[hb] at h;obtain⟨h1,h2⟩:=Qm8 r (i+1) t d h;refine⟨?_,by omega⟩;rw[show t-i=(t-(i+1))+1 by omega,List.getElem?_cons_succ]; exact h1
def retE(ds:List D):D:=match retD ds with
 | some d=>d
 | none=>match ds with
  | [d]=>d
  | ds =>.tup ds
def retR(tb:Tbl)(rs:List ResultVar)(R:D->S->Prop)(e:Exit)(σ : St):Prop :=
 match e with
 | .normal=>Qgh tb σ rs λds=>R (retE ds) σ.s
 | .ret=>Qgh tb σ rs λds=>R (retE ds) σ.s
 | _=>False
theorem Qagr{G:Gh}{w:World}{ds:List D}{us:List Value}(hl:us.length=ds.length)(h:∀ (j:Nat) d u,ds[j]? = some d->us[j]? = some u->DRel G w d u) :
  DRel G w (retE ds) (if h:us.toArray.size=1 then us.toArray[0] else .tuple us.toArray):=by
 unfold retE;split
 .rename_i d hd; exact(Q2y hl h hd).1
 .split
  .rename_i d
   match us,hl with
   | [u],_=>exact h 0 _ u rfl rfl
  .rename_i hne;have hsz:¬ us.toArray.size=1:=by
    simp only[List.size_toArray,hl];intro h1
    match ds,h1 with
    | [d],_=>exact hne d rfl
   rw[dif_neg hsz];exact .tup _ _ (by simp[hl]) (λj c u hc hu=>h j c u hc (by simpa using hu))
section
variable {P:Program} {tb:Tbl}
theorem CallOK.g{f:FuncId}{args:List D}{s s' : S}{r:D}(k:CallOK P f args s r s'):Q8h true P f args s r s' := ⟨k,λh=>by cases h⟩
end
theorem Le.ownH{B:Nat×Nat}{N:Nat}{env:Env}{s:S}(nm off e size:Nat){cs:List D}{es:List (List V)}(h:s.heap[nm]? = some cs)(hc:cs[off]? = some (.p (.sl true es)))(hs:∀ x ∈ es,x.length=size)(h0:es=[]:=by exact rfl) :
  Le B N ⟨env,s⟩ ⟨env,⟨s.heap.set nm (cs.set off (.own s.live.length e size es)),s.live++[es.length]⟩⟩:=⟨λG a w hR=>by
 obtain⟨s1,s2⟩:=Qk3 hR.inv es.length;refine⟨_,s1.ex B,⟨s2.setCell (s:=⟨s.heap,s.live++[es.length]⟩) h (λds hd=>by rw[hc] at hd; cases hd) (λu hu=>?_),λt' d' hd=>?_,hR.size⟩⟩
 .obtain⟨c,hc', hu⟩:=hu;rw[hc] at hc'; cases hc';have hlive:G.tok.length=s.live.length:=by rw[<-hR.inv.live]; simp
  cases hu with
  | p _ u hx =>
   obtain⟨ad,cap,rfl,c1,c2,c3,c4⟩:=hx.isSlice;have hx' : VRel G.com w (.sl false es) (.slice ad es.length cap):=by
    cases hx with
    | sl _ _ _ _ size b off us g1 g2 g3 g4 g5 g6 g7 g8=>exact .sl false es ad cap size b off us g1 g2 (λh=>by cases h) g4 g5 g6 g7 (λh=>by cases h)
   exact .own _ _ _ _ _ ⟨es.length,none,0,none⟩ hx' hs (by rw[<-hlive]; exact List.getElem?_concat_length) rfl (Nat.le_refl _) (λ_=>⟨ad,cap,rfl,.inl ⟨by rw[c3 rfl,h0]; rfl,c4 rfl⟩⟩)
 .obtain⟨k1,k2⟩:=hR.env t' d' hd;exact⟨k1,k2.mono s1⟩⟩
end Go.Proofs.YtfgegilhjlnohaaGreat
end
