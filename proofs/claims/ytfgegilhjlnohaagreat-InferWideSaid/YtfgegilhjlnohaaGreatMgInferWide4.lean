/- Part 4 of 12. -/
import Derived.Test.YtfgegilhjlnohaaGreatMgInferWide3
import Derived.Lib.SliceRun

noncomputable section
namespace Go.Proofs.YtfgegilhjlnohaaGreat
open Go.RowKit
set_option linter.unusedSimpArgs false
set_option linter.unusedVariables false
def Gh.xset(G:Gh)(t v:Nat)(bk:Option Nat):Gh:={ G with tok:=G.tok.set t ⟨v,bk,0,none⟩ }
theorem Qje{G:Gh}{s:S}{w w' : World}(hI:Inv G s w){t:Nat}{T:Tok}(hT:G.tok[t]? = some T)(hp:T.pro=none){v:Nat}(hv:T.len<v){bk:Option Nat}(hos:w'.os=w.os)(hta:w'.tape=w.tape)(hou:w'.output=w.output)(hz:w.heap.size<=w'.heap.size)
  (hold:∀ k,k<w.heap.size->bk≠some k->w'.heap[k]? = w.heap[k]?) (hw:∀ g,bk=some g->g<w'.heap.size/\(w.heap.size<=g\/(T.blk=some g/\T.cells=0))) (shp:ShKept w w') :
  Stp G w (G.xset t v bk) w' /\ Inv (G.xset t v bk) { s with live:=s.live.set t v } w' := by
 have hTm:T ∈ G.tok:=List.mem_of_getElem? hT;have hlt:t<G.tok.length:=(List.getElem?_eq_some_iff.1 hT).1;have hgn:∀ g,bk=some g->g ∉ G.name:=λg hg hm=>by
  rcases (hw g hg).2 with h | h
  .have:=Qd5 hI g hm; omega
  .exact(hI.tok t T g hT (.inl h.1)).2.1 hm
 have hgc:∀ g o,bk=some g->¬ G.com g o:=λg o hg hc=>by
  obtain⟨h1,-,h3⟩:=hI.com g o hc;rcases (hw g hg).2 with h | h
  .omega
  .have:=(h3 T hTm).1 h.1; omega
 have hgt:∀ g,bk=some g->∀ (t' : Nat) T', G.tok[t']? = some T' -> T'.has g->t' = t:=λg hg t' T' h1 h2=>by
  rcases (hw g hg).2 with h | h
  .have:=(hI.tok t' T' g h1 h2).1; omega
  .exact(hI.tok t T g hT (.inl h.1)).2.2 t' T' h1 h2
 have oth:∀ (t' : Nat) T', t' ≠ t->G.tok[t']? = some T' -> ∀ b,T'.has b->w'.heap[b]? = w.heap[b]? := λt' T' hne h b hb =>
  hold b (hI.tok t' T' b h hb).1 λe=>hne (hgt b e t' T' h hb)
 have nam:∀ b ∈ G.name,w'.heap[b]? = w.heap[b]? := λb hb=>hold b (Qd5 hI b hb) λe=>hgn b e hb
 have hst:Stp G w (G.xset t v bk) w' := by
  refine⟨⟨hos,hta,hou,hz,λb o u h hu=>⟨h,?_⟩,λb h1 h2 h3=>?_,λb o h =>.inl h,λb h=>?_,λ_ _ h=>h,shp⟩,λnm b h=>h,λt' T' h=>?_⟩
  .rw[World.cell?_of_block (w:=w) (hold b (hI.com b o h).1 λe=>hgc b o e h)]; exact hu
  .refine hold b h1 λe=>?_
   rcases (hw b e).2 with h | h
   .omega
   .exact h3 T hTm (.inl h.1)
  .rcases h with h | ⟨T', hT', hb⟩
   .exact .inr (.inl h)
   .have hT' : T' ∈ G.tok.set t ⟨v,bk,0,none⟩:=hT';rcases List.mem_or_eq_of_mem_set hT' with h | h
    .exact .inr (.inr ⟨T', h,hb⟩)
    .subst h;rcases (hw b (Tok.has_row.1 hb)).2 with h | h
     .exact .inl h
     .exact .inr (.inr ⟨T,hTm,.inl h.1⟩)
  .by_cases htt:t' = t
   .subst htt;rw[hT] at h;cases h;exact⟨⟨v,bk,0,none⟩,List.getElem?_set_self hlt,⟨by simp only; omega,by simp[hp]⟩,λe=>by simp only at e; omega⟩
   .refine⟨T', ?_,.refl T', λ_=>⟨rfl,oth t' T' htt h⟩⟩;show(G.tok.set t _)[t']? = _;rw[List.getElem?_set_ne (λe=>htt e.symm)]; exact h
 have mem' : ∀ T' ∈ G.tok.set t ⟨v,bk,0,none⟩,(∃ i,i≠t/\G.tok[i]? = some T')\/T' = ⟨v,bk,0,none⟩:=λT' hT' => by
  obtain⟨i,hi⟩:=List.getElem?_of_mem hT';by_cases hit:t=i
  .subst hit;rw[List.getElem?_set_self hlt] at hi;exact .inr (Option.some.inj hi).symm
  .rw[List.getElem?_set_ne hit] at hi;exact .inl ⟨i,λe=>hit e.symm,hi⟩
 refine⟨hst,⟨λb o h=>?_,hI.names,hI.nodup,λi b cs hb hcs=>?_,?_,λt' T' b h hb=>?_,λT' hT' => ?_,hI.glob.mono hst.ext.com⟩⟩
 .obtain⟨h1,h2,h3⟩:=hI.com b o h;refine⟨Nat.lt_of_lt_of_le h1 hz,h2,λT' hT' => ?_⟩;rcases mem' T' hT' with ⟨i,-,hi⟩ | rfl
  .exact h3 T' (List.mem_of_getElem? hi)
  .exact Tok.may_row.2 λhb=>absurd h (hgc b o hb)
 .exact(hI.var i b cs hb hcs).mono hst (nam b (List.mem_of_getElem? hb))
 .show(G.tok.set t _).map (·.len)=s.live.set t v;rw[List.map_set,hI.live]
 .have h:(G.tok.set t ⟨v,bk,0,none⟩)[t']? = some T' := h;have uni:∀ (t'' : Nat) T'', (G.tok.set t ⟨v,bk,0,none⟩)[t'']? = some T'' -> T''.has b->(t'' = t/\bk=some b)\/(t'' ≠ t/\G.tok[t'']? = some T''):=λt'' T'' h hb=>by
   by_cases htt:t'' = t
   .subst htt;rw[List.getElem?_set_self hlt] at h;cases h;exact .inl ⟨rfl,Tok.has_row.1 hb⟩
   .rw[List.getElem?_set_ne (λe=>htt e.symm)] at h;exact .inr ⟨htt,h⟩
  rcases uni t' T' h hb with ⟨rfl,hg⟩ | ⟨hne,h⟩
  .refine⟨(hw b hg).1,hgn b hg,λt'' T'' h'' hb'' => ?_⟩;rcases uni t'' T'' h'' hb'' with ⟨e,-⟩ | ⟨-,h''⟩
   .exact e
   .exact hgt b hg t'' T'' h'' hb''
  .obtain⟨h1,h2,h3⟩:=hI.tok t' T' b h hb;refine⟨Nat.lt_of_lt_of_le h1 hz,h2,λt'' T'' h'' hb'' => ?_⟩;rcases uni t'' T'' h'' hb'' with ⟨e,hg⟩ | ⟨-,h''⟩
   .exact absurd (hgt b hg t' T' h hb) hne
   .exact h3 t'' T'' h'' hb''
 .rcases mem' T' hT' with ⟨i,hit,hi⟩ | rfl
  .have hm:=List.mem_of_getElem? hi;exact⟨Tok.ok_ext (hI.pro T' hm) hst.ext (oth i T' hit hi),(hI.pro T' hm).2⟩
  .exact⟨λq hq=>(nomatch hq),λb o ⟨q,hq,_⟩=>(nomatch hq)⟩
theorem Qgq{G:Gh}{t v:Nat}{T:Tok}{bk:Option Nat}(hT:G.tok[t]? = some T):(G.xset t v bk).tok[t]? = some ⟨v,bk,0,none⟩:=List.getElem?_set_self (List.getElem?_eq_some_iff.1 hT).1
theorem Qagv{G:Gh}{s:S}{w:World}(hI:Inv G s w){t v:Nat}(h:s.live[t]? = some v):∃ T,G.tok[t]? = some T/\T.len=v:=by
 rw[<-hI.live,List.getElem?_map] at h;obtain⟨T,h1,h2⟩:=Option.map_eq_some_iff.1 h;exact⟨T,h1,h2⟩
theorem Qaav{G:Gh}{s:S}{w:World}(hI:Inv G s w):G.tok.length=s.live.length:=by rw[<-hI.live]; simp
inductive Home where
 | no
 | s (t:Nat)
 | a (t j:Nat)
 | h (nm off:Nat)
def Home.get(h:Home)(σ : St):Option D:=match h with
 | .no=>none
 | .s t => σ.env.lookup t
 | .a t j=>match σ.env.lookup t with
  | some (.agg ds)=>ds[j]?
  | _=>none
 | .h nm off=>match σ.s.heap[nm]? with
  | some cs=>cs[off]?
  | none=>none
def Home.set(h:Home)(d:D)(σ : St):St:=match h with
 | .no => σ
 | .s t=>⟨setE σ.env t d,σ.s⟩
 | .a t j=>match σ.env.lookup t with
  | some (.agg ds)=>⟨setE σ.env t (.agg (ds.set j d)),σ.s⟩
  | _ => σ
 | .h nm off=>match σ.s.heap[nm]? with
  | some cs=>⟨σ.env,⟨σ.s.heap.set nm (cs.set off d),σ.s.live⟩⟩
  | none => σ
theorem Qtl{N:Nat}{G G' : Gh}{σ : St}{live' : List Nat}{a:Act}{w w' : World}(hR:Rel N G σ a w)(hS:Stp G w G' w')(hI' : Inv G' ⟨σ.s.heap,live'⟩ w')(hn:G'.name=G.name)(hnb:∀ b ∈ G.name,w'.heap[b]? = w.heap[b]?)
  {hm:Home} {d0 d1:D} (hg:hm.get σ = some d0) (hup:∀ u,DRel G w d0 u->DRel G' w' d1 u/\u.oneCell' = true) (hnt:∀ ds,d0 ≠ .tup ds:=by exact λ_ h=>nomatch h):Rel N G' (hm.set d1 ⟨σ.env,⟨σ.s.heap,live'⟩⟩) a w' := by
 have henv:=hR.env.mono hS;cases hm with
 | no=>cases hg
 | s t =>
  refine⟨hI', λt' d' h' => ?_,hR.size⟩;rcases Qpx _ _ _ _ _ h' with ⟨h1,-⟩ | ⟨rfl,rfl⟩
  .exact henv t' d' h1
  .obtain⟨k1,k2⟩:=hR.env t' d0 hg;exact⟨k1,(hup _ k2).1⟩
 | a t j =>
  dsimp only[Home.get] at hg;dsimp only[Home.set];split at hg
  .rename_i ds hds;refine⟨hI', λt' d' h' => ?_,hR.size⟩;rcases Qpx _ _ _ _ _ h' with ⟨h1,-⟩ | ⟨rfl,rfl⟩
   .exact henv t' d' h1
   .obtain⟨k1,k2⟩:=hR.env t' _ hds;refine⟨k1,?_⟩;generalize a.tmps.getD t' undef=u at k2;cases k2 with
    | agg _ us l1 l2 l3 =>
     refine .agg _ us (by simpa using l1) (λi c u hc hu=>?_) (λi c u hc hu=>?_)
     all_goals
      by_cases hij:j=i
      .subst hij;have hlj:j<ds.length:=by have:=(List.getElem?_eq_some_iff.1 hc).1; simpa using this
       rw[List.getElem?_set_self hlj] at hc;cases hc
       first
        | exact(hup u (l3 j d0 u hg hu)).2
        | exact(hup u (l3 j d0 u hg hu)).1
      .rw[List.getElem?_set_ne hij] at hc
       first
        | exact l2 i c u hc hu
        | exact(l3 i c u hc hu).mono hS
  .cases hg
 | h nm off =>
  dsimp only[Home.get] at hg;dsimp only[Home.set];split at hg
  .rename_i cs hcs;refine⟨⟨hI'.com,by rw[hI'.names]; simp,hI'.nodup,λi b cs' hb hcs' => ?_,hI'.live,hI'.tok,hI'.pro,hI'.glob⟩,henv,hR.size⟩;by_cases hi:i=nm
   .subst hi;have hlt:i < σ.s.heap.length:=(List.getElem?_eq_some_iff.1 hcs).1;rw[List.getElem?_set_self hlt] at hcs';cases hcs';rw[hn] at hb;obtain⟨us,ty,h1,h2,h3⟩:=(hR.inv.var i b cs hb hcs).at hg hnt;refine .cells us ty ((hnb b (List.mem_of_getElem? hb)).trans h1) (by rw[h2]; simp) λj c u hj hu=>?_
    by_cases hjo:off=j
    .subst hjo;have hlj:off<cs.length:=(List.getElem?_eq_some_iff.1 hg).1;rw[List.getElem?_set_self hlj] at hj;cases hj;have:=hup u (h3 off d0 u hg hu).2;exact⟨this.2,this.1⟩
    .rw[List.getElem?_set_ne hjo] at hj;exact⟨(h3 j c u hj hu).1,(h3 j c u hj hu).2.mono hS⟩
   .rw[List.getElem?_set_ne (λe=>hi e.symm)] at hcs';exact hI'.var i b cs' hb hcs'
  .cases hg
section
variable {P:Program} {tb:Tbl}
def ResX(N:Nat)(G:Gh)(a:Act)(w:World)(r:Result Next)(K:D->St->Prop):Prop :=
 ∃ u w' G' d σ', (r = .ok (.value u) w' \/ (r = .ok .skip w' /\ u=undef))/\Stp G w G' w' /\ Rel N G' σ' a w' /\ DRel G' w' d u/\K d σ'
def xput(c vs:List V)(off:Nat):List V:=c.take off++vs++c.drop (off+vs.length)
def xDat(d:D):Option (List V):=(Ql3 d).bind unps
def xNew(e size:Nat)(es:List (List V))(σ : St)(K:D->St->Prop):Prop :=
 ∃ es', LeLL es es' /\ K (.x σ.s.live.length 1 (.sl e size es')) ⟨σ.env,⟨σ.s.heap,σ.s.live++[1]⟩⟩
def Qait(tb:Tbl)(t:Nat)(l c:D)(σ : St)(K:D->St->Prop):Prop :=
 match tb.lookup t,l,c with
 | some ti,.p (.v (.int _ n)),.p (.v (.int _ m))=>match ti.d with
  | .slice e=>match tb.lookup e with
   | some te=>match absV te.zero with
    | some x=>match xDat (.p x) with
     | some zs=>(zs.length=te.size/\0<te.size)/\(0<=n/\m=n/\n*te.bytes<=140737488355328/\n<=9223372036854775807)/\xNew e te.size (List.replicate n.toNat zs) σ K
     | none=>False
    | none=>False
   | none=>False
  | _=>False
 | _,_,_=>False
def xApp(tb:Tbl)(t:Nat)(x y:D)(σ : St)(K:D->St->Prop):Prop :=
 match tb.lookup t,unp y with
 | some ti,some (.sl _ fs)=>match ti.d with
  | .slice e=>match tb.lookup e with
   | some te=>if te.zero.cells.size=te.size/\0<te.size then
    match x with
    | .x tk v (.sl e' sz es)=>if e' = e/\sz=te.size then σ.s.live[tk]? = some v/\((∀ x ∈ fs,x.length=te.size)/\(es.length+fs.length)*te.bytes<=140737488355328/\es.length+fs.length<=9223372036854775807) /\
      ∃ v', v<v' /\ ∃ es', LeLL (es++fs) es' /\ K (.x tk v' (.sl e te.size es')) ⟨σ.env,⟨σ.s.heap,σ.s.live.set tk v'⟩⟩ else False
    | .p (.sl true es)=>(es.length=0\/0<fs.length)/\(∀ x ∈ es,x.length=te.size)/\((∀ x ∈ fs,x.length=te.size)/\(es.length+fs.length)*te.bytes<=140737488355328/\es.length+fs.length<=9223372036854775807) /\
      xNew e te.size (es++fs) σ K
    | _=>False
    else False
   | none=>False
  | _=>False
 | _,_=>False
def Qxv(tb:Tbl)(t:Nat)(x i:D)(σ : St)(K:D->St->Prop):Prop :=
 match tb.lookup t,i,x with
 | some ti,.p (.v (.int _ n)),.x tk v (.sl e sz es)=>match ti.d with
  | .slice e' => match tb.lookup e' with
   | some te=>if sz=te.size then σ.s.live[tk]? = some v/\∃ c,0<=n/\es[n.toNat]? = some c/\c.length=te.size/\0<te.size/\K (.x tk v (.el e sz es n.toNat c 0)) σ else False
   | none=>False
  | _=>False
 | _,_,_=>False
def Q8t(tb:Tbl)(t:Nat)(x:D)(σ : St)(K:D->St->Prop):Prop :=
 match tb.lookup t,x with
 | some ti,.x tk v (.el _ _ _ _ c off) => σ.s.live[tk]? = some v/\off+ti.size<=c.length/\Qxg ti (c.drop off) λy=>K (.p y) σ
 | _,_=>False
def Qxw(tb:Tbl)(t:Nat)(x:D)(f:Nat)(σ : St)(K:D->St->Prop):Prop :=
 match tb.lookup t,x with
 | some ti,.x tk v (.el e sz es i c off)=>match ti.d with
  | .struct fields=>match fields[f]? with
   | some fd=>match tb.lookup fd.type with
    | some tf=>if tf.size=0 then False else σ.s.live[tk]? = some v/\K (.x tk v (.el e sz es i c (off+fd.offset))) σ
    | none=>False
   | none=>False
  | _=>False
 | _,_=>False
def Qad7(tb:Tbl)(hm:Home)(t:Nat)(x y:D)(σ : St)(K:D->St->Prop):Prop :=
 match tb.lookup t,x,xDat y with
 | some ti,.x tk v (.el e sz es i c off),some vs=>vs.length=ti.size/\off+vs.length<=c.length /\ σ.s.live[tk]? = some v/\hm.get σ = some (.x tk v (.sl e sz es)) /\
   ∃ es', LeLL (es.set i (xput c vs off)) es' /\ K .undef (hm.set (.x tk (v+1) (.sl e sz es')) ⟨σ.env,⟨σ.s.heap,σ.s.live.set tk (v+1)⟩⟩)
 | _,_,_=>False
def xLen(tb:Tbl)(t:Nat)(x:D)(σ : St)(K:D->St->Prop):Prop :=
 match tb.lookup t,x with
 | some ti,.x tk v (.sl _ _ es)=>match ti.d with
  | .slice _ => σ.s.live[tk]? = some v/\∃ n,es.length=n/\K (.p (.v (.int .i64 n))) σ
  | _=>False
 | _,_=>False
def xS2B(tb:Tbl)(src dst:Nat)(x:D)(σ : St)(K:D->St->Prop):Prop :=
 match tb.lookup src,tb.lookup dst,x with
 | some ti,some tu,.p (.v (.string z))=>match ti.d,tu.d with
  | .string,.slice e=>match tb.lookup e with
   | some te=>match te.d with
    | .int .u8=>te.size=1/\(Qau z).length<=maxLen/\∃ d' live,LeD (.own σ.s.live.length (e+2000000) 1 ((Qau z).map Qf4)) d' /\ live = σ.s.live++[(Qau z).length]/\K d' ⟨σ.env,⟨σ.s.heap,live⟩⟩
    | _=>False
   | none=>False
  | _,_=>False
 | _,_,_=>False
def d0:Option D->Bool
 | some (.p (.v (.int _ 0)))=>true
 | _=>false
def isSl:D->Bool
 | .p (.sl _ _)=>true
 | .own .. => true
 | _=>false
def Qaiu(tb:Tbl)(t:Nat)(x:D)(lo hi mx:Option D)(σ : St)(K:D->St->Prop):Prop :=
 match tb.lookup t with
 | some ti=>match ti.d with
  | .slice e=>isSl x=true/\lo.isNone=true/\d0 hi=true/\d0 mx=true/\∃ te,tb.lookup e=some te/\∃ es', LeLL [] es' /\ K (.x σ.s.live.length 1 (.sl e te.size es')) ⟨σ.env,⟨σ.s.heap,σ.s.live++[1]⟩⟩
  | _=>False
 | none=>False
def Qad8:Operand->Bool
 | .const u=>match u with
  | .slice a n c=>a.isNone&&Nat.beq n 0&&Nat.beq c 0
  | _=>false
 | _=>false
theorem Qad9{x:Operand}(h:Qad8 x=true):x = .const (.slice none 0 0):=by
 unfold Qad8 at h;split at h
 .split at h
  .rename_i a n c;simp only[Bool.and_eq_true,Option.isNone_iff_eq_none] at h;obtain⟨⟨rfl,h1⟩,h2⟩:=h;rw[Nat.eq_of_beq_eq_true h1,Nat.eq_of_beq_eq_true h2]
  .cases h
 .cases h
def Qaiv(tb:Tbl)(t:Nat):Bool :=
 match tb.lookup t with
 | some ti=>match ti.d with | .slice _=>true | _=>false
 | none=>false
theorem Qaea(hT:TblOk P tb){t:Nat}(h:Qaiv tb t=true):∃ e,P.underlying t=some (.slice e):=by
 unfold Qaiv at h;split at h
 .rename_i ti ht;have h2:=hT.und ht;split at h
  .rename_i e hd; exact⟨e,by rw[h2,hd]⟩
  .cases h
 .cases h
def Qakt(tb:Tbl)(op:BinOp)(t:Nat)(d:D)(y:Operand)(σ : St)(K:D->St->Prop):Prop :=
 op = .eql/\Qad8 y=true/\Qaiv tb t=true/\match d with
  | .p (.sl _ es)=>∀ b:Bool,(b=true->es=[])->K (.p (.v (.bool b))) σ
  | _=>False
def Qaeb(tb:Tbl)(t n:Nat)(ps:Option (List (Nat×D)))(σ : St)(K:D->St->Prop):Prop :=
 match tb.lookup t,ps with
 | some ti,some ps=>match ti.d with
  | .slice e=>match tb.lookup e with
   | some te=>match absV te.zero with
    | some x=>match Ql3 (.p x) with
     | some z=>if n*te.size<=16777216/\z.length=te.size/\0<te.size then
      match Qxm (λi=>some (i*te.size,te.size)) (List.replicate n z).flatten ps with
       | some cs=>match unps cs with
        | some vs=>xNew e te.size (Qtf te.size n vs) σ K
        | none=>False
       | none=>False
      else False
     | none=>False
    | none=>False
   | none=>False
  | _=>False
 | _,_=>False
def Q8u(tb:Tbl)(hm:Home)(o:Op)(σ : St)(K:D->St->Prop):Prop :=
 match o with
 | .convert src dst x=>match ev σ.env x with | some d=>xS2B tb src dst d σ K | none=>False
 | .makeSlice t x y=>match ev σ.env x,ev σ.env y with | some a,some b=>Qait tb t a b σ K | _,_=>False
 | .buildSlice t n ps=>Qaeb tb t n (evps (ev σ.env) ps.toList) σ K
 | .load t x=>match ev σ.env x with | some d=>Q8t tb t d σ K | none=>False
 | .store t x y=>match ev σ.env x,ev σ.env y with | some a,some b=>Qad7 tb hm t a b σ K | _,_=>False
 | .nilCheck x=>match ev σ.env x with | some (.x tk v (.el e sz es i c off)) => σ.s.live[tk]? = some v/\K (.x tk v (.el e sz es i c off)) σ | _=>False
 | .fieldAddr t x f=>match ev σ.env x with | some d=>Qxw tb t d f σ K | none=>False
 | .indexAddr t x i=>match ev σ.env x,ev σ.env i with | some a,some b=>Qxv tb t a b σ K | _,_=>False
 | .slice t x lo hi (some mx)=>match ev σ.env x,evo (ev σ.env) lo,evo (ev σ.env) hi,ev σ.env mx with | some a,some l,some h,some m=>Qaiu tb t a l h (some m) σ K | _,_,_,_=>False
 | .makeMap _ r=>r=none/\∃ fl,K (.mh σ.s.heap.length) ⟨σ.env,⟨σ.s.heap++[[.tup [.p (.sl fl [])]]],σ.s.live⟩⟩
 | .lookup t x i ok=>match ev σ.env x,ev σ.env i with | some a,some b=>Qn8 tb t a b ok σ.s λd s=>K d ⟨σ.env,s⟩ | _,_=>False
 | .mapUpdate t x i y=>match ev σ.env x,ev σ.env i,ev σ.env y with | some a,some b,some c=>Q8r tb t a b c σ.s λd s=>K d ⟨σ.env,s⟩ | _,_,_=>False
 | .binOp op t x y _=>match ev σ.env x with | some d=>Qakt tb op t d y σ K | none=>False
 | .call c=>match c.callee,evs (ev σ.env) c.args.toList,c.argTypes.toList with
  | .builtin .len,some [x],[t]=>xLen tb t x σ K
  | .builtin .append,some [x,y],[t,t']=>if t=t' then xApp tb t x y σ K else False
  | _,_,_=>False
 | _=>False
theorem XRow.le{C:Nat->Nat->Prop}{w:World}{T:Tok}{a:Option Addr}{cap e size:Nat}{es es' : List (List V)}(h:XRow C w T a cap e size es)(k:LeLL es es'):XRow C w T a cap e size es' := by
 obtain⟨h1,h2,h3,h4⟩:=h;refine⟨λx hx=>?_,by rw[<-k.1]; exact h2,h3,h4.imp id ?_⟩
 .obtain⟨i,hi⟩:=List.getElem?_of_mem hx;obtain⟨y,hy⟩:=Qgk k.1 hi;rw[<-(k.2 i y x hy hi).1];exact h1 y (List.mem_of_getElem? hy)
 .rintro ⟨b,us,g1,g2,g3,g4,g5,g6⟩;refine⟨b,us,g1,g2,g3,g4,g5,λi j x c hx hc=>?_⟩;obtain⟨y,hy⟩:=Qgk k.1 hx;obtain⟨z,hz⟩:=Qgk (k.2 i y x hy hx).1 hc;obtain⟨u,q1,q2,q3⟩:=g6 i j y z hy hz;exact⟨u,q1,q2,q3.le ((k.2 i y x hy hx).2 j z c hz hc)⟩
theorem Qu2{N:Nat}{G:Gh}{σ : St}{a:Act}{w:World}(hR:Rel N G σ a w):∃ G1,Stp G w G1 w/\Rel N G1 ⟨σ.env,⟨σ.s.heap,σ.s.live++[0]⟩⟩ a w/\G1.tok[σ.s.live.length]? = some ⟨0,none,0,none⟩/\G1.com=G.com/\G1.name=G.name:=by
 obtain⟨s1,s2⟩:=Qk3 hR.inv 0;exact⟨_,s1,⟨s2,hR.env.mono s1,hR.size⟩,by rw[<-Qaav hR.inv]; exact List.getElem?_concat_length,rfl,rfl⟩
theorem Q23(l:List Nat)(v:Nat):(l++[0]).set l.length v=l++[v]:=by
 rw[List.set_append_right _ _ (Nat.le_refl _)]; simp
theorem Q24{N:Nat}{G:Gh}{σ : St}{a:Act}{w w' : World}(hR:Rel N G σ a w){e size cap:Nat}{es es' : List (List V)}{us:Array Value}(hos:w'.os=w.os)(hta:w'.tape=w.tape)(hou:w'.output=w.output)(hz:w.heap.size<=w'.heap.size)
  (hold:∀ k,k<w.heap.size->w'.heap[k]? = w.heap[k]?) (shp:ShKept w w') (hrow:w'.heap[w.heap.size]? = some (.cells us e (0,0))) (hus:us.size=cap*size) (hc1:es.length<=cap) (hc2:cap<=maxLen) (hs:∀ x ∈ es,x.length=size)
  (hel:∀ (i k:Nat) x c,es[i]? = some x->x[k]? = some c->∃ u,us[i*size+k]? = some u/\u.oneCell' = true/\VRel G.com w c u) (hle:LeLL es es') :
  ∃ G', Stp G w G' w' /\ Rel N G' ⟨σ.env,⟨σ.s.heap,σ.s.live++[1]⟩⟩ a w' /\ DRel G' w' (.x σ.s.live.length 1 (.sl e size es')) (.slice (some ⟨w.heap.size,0,none⟩) es.length cap):=by
 obtain⟨G1,s1,r1,t1,c1,n1⟩:=Qu2 hR;obtain⟨s2,i2⟩:=Qje r1.inv t1 rfl (Nat.zero_lt_one) (bk:=some w.heap.size) hos hta hou hz (λk hk hne=>hold k hk) (λg hg=>by cases hg; exact⟨(Array.getElem?_eq_some_iff.1 hrow).1,.inl (Nat.le_refl _)⟩) shp;rw[show(⟨σ.env,⟨σ.s.heap,σ.s.live++[0]⟩⟩:St).s.live.set σ.s.live.length 1 = σ.s.live++[1] from Q23 _ _] at i2;refine⟨_,s1.trans s2,⟨i2,r1.env.mono s2,hR.size⟩,?_⟩;refine .x _ 1 _ _ ⟨1,some w.heap.size,0,none⟩ (Qgq t1) rfl (Nat.le_refl _) rfl λ_=>?_
 rw[show es.length=es'.length from hle.1];refine .sl e size es' _ cap (λh=>by cases h) (XRow.le ?_ hle);refine⟨hs,hc1,hc2,.inr ⟨_,us,rfl,rfl,rfl,hrow,hus,λi k x c hx hc=>?_⟩⟩;obtain⟨u,q1,q2,q3⟩:=hel i k x c hx hc;refine⟨u,q1,q2,?_⟩;rw[<-c1] at q3;exact q3.mono s2.ext.size s2.ext.com
theorem Qaaw{N:Nat}{G:Gh}{σ : St}{a:Act}{w:World}(hR:Rel N G σ a w){e size:Nat}{es' : List (List V)}{ad:Option Addr}(hle:LeLL [] es') :
  ∃ G', Stp G w G' w/\Rel N G' ⟨σ.env,⟨σ.s.heap,σ.s.live++[1]⟩⟩ a w/\DRel G' w (.x σ.s.live.length 1 (.sl e size es')) (.slice ad 0 0):=by
 obtain⟨G1,s1,r1,t1,c1,n1⟩:=Qu2 hR;obtain⟨s2,i2⟩:=Qje r1.inv t1 rfl (Nat.zero_lt_one) (bk:=none) rfl rfl rfl (Nat.le_refl _) (λk hk hne=>rfl) (λg hg=>by cases hg) (.refl w);rw[show(⟨σ.env,⟨σ.s.heap,σ.s.live++[0]⟩⟩:St).s.live.set σ.s.live.length 1 = σ.s.live++[1] from Q23 _ _] at i2;refine⟨_,s1.trans s2,⟨i2,r1.env.mono s2,hR.size⟩,?_⟩;have h0:es' = []:=List.eq_nil_of_length_eq_zero hle.1.symm;subst h0;exact .x _ 1 _ _ ⟨1,none,0,none⟩ (Qgq t1) rfl (Nat.le_refl _) rfl λ_ =>.sl e size [] ad 0 (λ_=>rfl) ⟨λx hx=>(nomatch hx),Nat.le_refl _,Nat.zero_le _,.inl ⟨rfl,trivial⟩⟩
theorem Out.resX{N:Nat}{G:Gh}{σ : St}{a:Act}{w:World}(hR:Rel N G σ a w){sem:Sem Value}{u:Value}(hr:sem.run P w = .ok u w){d:D}(hd:DRel G w d u){K:D->St->Prop}(hK:K d σ):ResX N G a w ((sem>>=λx=>Pure.pure (Next.value x):Sem Next).run P w) K :=
 ⟨u,w,G,d,σ,.inl (by simp[hr]),.refl G w,hR,hd,hK⟩
theorem Out.resX2{N:Nat}{G:Gh}{σ : St}{a:Act}{w:World}(hR:Rel N G σ a w){sem:Sem Value}{K:D->St->Prop}(h:Out P G w (sem.run P w) λd s=>K d ⟨σ.env,s⟩):ResX N G a w ((sem>>=λx=>Pure.pure (Next.value x):Sem Next).run P w) K:=by
 obtain⟨u,w', G', d,s', hr,h1,h2,h3,h4⟩:=h;exact⟨u,w', G', d,⟨σ.env,s'⟩,.inl (by simp[hr]),h1,⟨h2,hR.env.mono h1,hR.size⟩,h3,h4⟩
theorem Qah4{G:Gh}{w:World}{d:D}{u:Value}(h:DRel G w d u)(hd:d0 (some d)=true):∃ k,u = .int k 0:=by
 unfold d0 at hd;split at hd
 .rename_i k he;cases he;cases h with | p _ _ h=>cases h with | v _ _=>exact⟨k,rfl⟩
 .cases hd
theorem Qagw{G:Gh}{w:World}{d:D}{u:Value}(h:DRel G w d u)(hd:isSl d=true):∃ a n cap,u = .slice a n cap:=by
 unfold isSl at hd;split at hd
 .cases h with | p _ _ h=>cases h; exact⟨_,_,_,rfl⟩
 .cases h with | own _ _ _ _ _ _ h=>cases h; exact⟨_,_,_,rfl⟩
 .cases hd
theorem Q8v(hT:TblOk P tb){N:Nat}{G:Gh}{σ : St}{a:Act}{w:World}(hR:Rel N G σ a w){K:D->St->Prop}{t:Nat}{x m:D}{lo hi:Option D}{u z:Value}{lv hv:Option Value}(hx:DRel G w x u)(hl:Qvk G w lo lv)(hh:Qvk G w hi hv)(hm:DRel G w m z)(h:Qaiu tb t x lo hi (some m) σ K) :
  ResX N G a w ((Instr.sliceAt t u lv hv (some z)>>=λx=>Pure.pure (Next.value x):Sem Next).run P w) K:=by
 unfold Qaiu at h;split at h
 .rename_i ti hti;split at h
  .rename_i e hd;obtain⟨h1,h2,h3,h4,te,hte,es', hle,hK⟩:=h;obtain⟨ad,n,cap,rfl⟩:=Qagw hx h1;obtain⟨k4,rfl⟩:=Qah4 hm h4;cases lo with
   | some l=>cases h2
   | none =>
   cases hi with
   | none=>cases h3
   | some q =>
   cases lv with
   | some l=>exact absurd hl (by simp[Qvk])
   | none =>
   cases hv with
   | none=>exact absurd hh (by simp[Qvk])
   | some hvv =>
   obtain⟨k3,rfl⟩:=Qah4 (show DRel G w q hvv from hh) h3;have hun:=hT.und hti;rw[hd] at hun;have hrun:(Instr.sliceAt t (.slice ad n cap) none (some (.int k3 0)) (some (.int k4 0))).run P w = .ok (.slice ad 0 0) w:=by
    simp[Instr.sliceAt,Instr.slice,run_underlying hun,Instr.sliceBounds,Instr.sliceBound,asIntOf,Result.andThen,hT.sz hte]
   obtain⟨G', s1,r1,d1⟩:=Qaaw hR (e:=e) (size:=te.size) (ad:=ad) hle;exact⟨_,w,G', _,_,.inl (by simp[hrun]),s1,r1,d1,hK⟩
  .exact h.elim
 .exact h.elim
theorem Qli{G:Gh}{s:S}{w:World}(hI:Inv G s w){t v:Nat}{X:XD}{u:Value}(h:DRel G w (.x t v X) u)(hl:s.live[t]? = some v):∃ T,G.tok[t]? = some T/\T.pro=none/\T.len=v/\XRel G.com w T X u:=by
 obtain⟨T1,g1,g2⟩:=Qagv hI hl;cases h with
 | x _ _ _ _ T h1 h0 h2 h3 h4 =>
  rw[h1] at g1;obtain rfl:=Option.some.inj g1;exact⟨_,h1,h0,g2,h4 g2.symm⟩
theorem Q6f(hT:TblOk P tb){N:Nat}{G:Gh}{σ : St}{a:Act}{w:World}(hR:Rel N G σ a w){K:D->St->Prop}{ev:Operand->Option D}(hev:∀ x d,ev x=some d->DRel G w d (a.eval x))(t n:Nat)(parts:Array (Nat×Operand))
  (h:Qaeb tb t n (evps ev parts.toList) σ K):ResX N G a w ((Instr.buildSlice t n (parts.map λ(i,x)=>(i,a.eval x))>>=λx=>Pure.pure (Next.value x):Sem Next).run P w) K:=by
 have hI:=hR.inv;unfold Qaeb at h;split at h
 .rename_i ti ps ht hps;have hu:=hT.und ht;split at h
  .rename_i e hd;rw[hd] at hu;split at h
   .rename_i te he;split at h
    .rename_i x hx;split at h
     .rename_i z hz;split at h
      .rename_i hc;obtain⟨hc1,hc2,hc3⟩:=hc;split at h
       .rename_i cs hcs;have hzr:CellsRel G w z te.zero.cells:=Qdz (.p x _ (Ql4 hx)) hz;have hzs:te.zero.cells.size=te.size:=by rw[hzr.1]; exact hc2
        have hparts:(parts.map λ(i,x)=>(i,a.eval x)).toList=parts.toList.map λ(i,x)=>(i,a.eval x):=by simp
        have hflen:(List.replicate n z).flatten.length=n*te.size:=by simp[hc2]
        obtain⟨Z,hZ0,hZs⟩:∃ Z:Array Value,(n*te.size=0->Z = #[])/\(n*te.size≠0->Z=te.zero.cells):=by
         by_cases h0:n*te.size=0
         .exact⟨#[],λ_=>rfl,λh=>absurd h0 h⟩
         .exact⟨te.zero.cells,λh=>absurd h h0,λ_=>rfl⟩
        have hbase:CellsRel G w (List.replicate n z).flatten ((Array.range (n*te.size)).map λx=>Z[x % Z.size]!):=by
         refine⟨by simp[hc2],λj c u hcj hu' => ?_⟩;have hj:j<n*te.size:=by rw[<-hflen]; exact(List.getElem?_eq_some_iff.1 hcj).1
         have hZe:=hZs (by omega);subst hZe;rw[Q2o z n j (by rw[hc2]; exact hj),hc2] at hcj;have hm:j % te.size<te.zero.cells.size:=by
          rw[hzs]; have:=(List.getElem?_eq_some_iff.1 hcj).1; omega
         have hu2:te.zero.cells[j % te.size]! = u:=by
          rw[Array.getElem?_map,Array.getElem?_range] at hu';simpa only[hj,if_true,Option.map_some,Option.some.injEq,hzs] using hu'
         rw[getElem!_pos te.zero.cells (j % te.size) hm] at hu2;exact hzr.2 _ c u hcj (by rw[Array.getElem?_eq_getElem hm,hu2])
        obtain⟨zs,f1,f2⟩:=Qpv hev _ parts.toList ps _ _ cs hps hbase hcs;have hcl:cs.length=n*te.size:=by rw[Qxo _ _ _ _ hcs,hflen]
        have hrun:(Instr.buildSlice t n (parts.map λ(i,x)=>(i,a.eval x))).run P w = .ok (.slice (some ⟨w.heap.size,0,none⟩) n n) (w.alloc (.cells zs e)):=by
         have hn:¬ (n*te.size>2 ^ 24):=by omega
         simp only[Instr.buildSlice,Sem.run_bind,run_underlying hu,Result.andThen_ok,hT.sz he,hn,if_false];by_cases h0:n*te.size=0
         .have:=hZ0 h0; subst this;rw[if_pos h0];simp only[Sem.run_bind,Sem.run_pure,Result.andThen_ok,hparts,f1];rfl
         .have:=hZs h0; subst this;rw[if_neg h0];simp only[Sem.run_bind,Sem.run_pure,Result.andThen_ok,hT.zr he,hparts,f1];rfl
        split at h
        .rename_i vs hvs;obtain⟨u1,u2⟩:=Qhm (G:=G) (w:=w) cs vs hvs;obtain⟨k1,k2,k3⟩:=Q2n te.size n vs (by rw[u1,hcl]);obtain⟨es', hle,hK⟩:=h;obtain⟨G', r0,r1,d1⟩:=Q24 hR (w' := w.alloc (.cells zs e)) (e:=e) (size:=te.size) (cap:=n) (es:=Qtf te.size n vs) (us:=zs) rfl rfl rfl (by simp) (λk hk=>by rw[Qfo,if_neg (by omega)]) (Q2g w _) (World.alloc_heap_new w _)
          (by rw[f2.1,hcl]) (by rw[k1]; exact Nat.le_refl _) (by have:=Nat.le_mul_of_pos_right n hc3; unfold maxLen; omega) k2 (λi k e' c he' hc' => by
           have hv:=k3 i k e' c he' hc';obtain⟨d,hd', hun⟩:=u2 _ c hv;have hlt:i*te.size+k<zs.size:=by rw[f2.1]; exact(List.getElem?_eq_some_iff.1 hd').1
           obtain⟨o1,o2⟩:=f2.2 _ d zs[i*te.size+k] hd' (Array.getElem?_eq_getElem hlt);exact⟨_,Array.getElem?_eq_getElem hlt,o1,Qfe o2 hun⟩) hle
         rw[k1] at d1;exact⟨_,_,G', _,_,.inl (by simp[hrun]),r0,r1,d1,hK⟩
        .exact h.elim
       .exact h.elim
      .exact h.elim
     .exact h.elim
    .exact h.elim
   .exact h.elim
  .exact h.elim
 .exact h.elim
theorem Q8w(hT:TblOk P tb){N:Nat}{G:Gh}{σ : St}{a:Act}{w:World}(hR:Rel N G σ a w){K:D->St->Prop}{t:Nat}{l c:D}{u v:Value}(hl:DRel G w l u)(hc:DRel G w c v)(h:Qait tb t l c σ K) :
  ResX N G a w ((Instr.makeSlice t u v>>=λx=>Pure.pure (Next.value x):Sem Next).run P w) K:=by
 unfold Qait at h;split at h
 .rename_i ti k n k' m ht;have e1:u = .int k n:=by cases hl with | p _ _ h=>cases h; rfl
  have e2:v = .int k' m:=by cases hc with | p _ _ h=>cases h; rfl
  subst e1; subst e2;split at h
  .rename_i e hd;split at h
   .rename_i te he;split at h
    .rename_i x hx;split at h
     .rename_i zs hzs;obtain⟨⟨z1,z2⟩,⟨h1,h2,h3,h4⟩,es', hle,hK⟩:=h;subst h2;obtain⟨z,hz,hzu⟩:=Option.bind_eq_some_iff.1 hzs;have hu:=hT.und ht;rw[hd] at hu;obtain⟨_,i,i1,i2,i3,i4,_⟩:=hT e te he;have hzr:CellsRel G w z te.zero.cells:=Qdz (.p x _ (Ql4 hx)) hz;obtain⟨q1,q2⟩:=Qhm (G:=G) (w:=w) z zs hzu;have hzsz:te.zero.cells.size=te.size:=by rw[hzr.1,<-q1]; exact z1
      obtain⟨M,rfl⟩:∃ M:Nat,m=(M:Int):=⟨m.toNat,by omega⟩;have hr:=run_make (P:=P) w t e i te.zero hu i1 i4 k k' (M:Int) (M:Int) h1 (Int.le_refl _) (by rw[i3,Int.mul_comm]; omega) h4;rw[Int.toNat_natCast,i2] at hr;rw[Int.toNat_natCast] at hle;have hlen:(List.replicate M zs).length=M:=by simp
      obtain⟨G', s1,r1,d1⟩:=Q24 hR (w' := w.alloc (.cells (madeCells te.zero.cells (M*te.size)) e)) (e:=e) (size:=te.size) (cap:=M) (es:=List.replicate M zs) (us:=madeCells te.zero.cells (M*te.size)) rfl rfl rfl (by simp) (λk hk=>by rw[Qfo,if_neg (by omega)]) (Q2g w _) (World.alloc_heap_new w _)
       (by simp[madeCells]) (by simp) (by unfold maxLen; omega) (λy hy=>by rw[(List.mem_replicate.1 hy).2]; exact z1) (λp b y c hy hc=>by
        have hy2:y=zs:=(List.mem_replicate.1 (List.mem_of_getElem? hy)).2;subst hy2;have ha:p<M:=by have:=(List.getElem?_eq_some_iff.1 hy).1; simpa using this
        have hb:b<te.size:=by rw[<-z1]; exact(List.getElem?_eq_some_iff.1 hc).1
        have hlt:p*te.size+b<M*te.size:=by
         have:(p+1)*te.size<=M*te.size:=Nat.mul_le_mul_right _ ha;rw[Nat.add_mul] at this; omega
        have hmod:(p*te.size+b) % te.size=b:=by rw[Nat.mul_comm,Nat.mul_add_mod]; exact Nat.mod_eq_of_lt hb
        have hbs:b<te.zero.cells.size:=by omega
        obtain⟨d,d1,d2⟩:=q2 b c hc;have hcell:=hzr.2 b d te.zero.cells[b] d1 (Array.getElem?_eq_getElem hbs);refine⟨te.zero.cells[b],?_,hcell.1,Qfe hcell.2 d2⟩;unfold madeCells;rw[Array.getElem?_map,Array.getElem?_range,if_pos hlt];simp only[Option.map_some,hzsz,hmod,Option.some.injEq];simp[hbs]) hle
      rw[hlen] at d1;exact⟨_,_,G', _,_,.inl (by simp[hr]),s1,r1,d1,hK⟩
     .exact h.elim
    .exact h.elim
   .exact h.elim
  .exact h.elim
 .exact h.elim
theorem Q6g{C:Nat->Nat->Prop}{w:World}{es fs:List (List V)}{olds news:List Value}{size:Nat}(o1:olds.length=es.length*size)
  (o2:∀ (i k:Nat) e c,es[i]? = some e->e[k]? = some c->∃ u,olds[i*size+k]? = some u/\VRel C w c u) (n2:∀ (i k:Nat) e c,fs[i]? = some e->e[k]? = some c->∃ u,news[i*size+k]? = some u/\VRel C w c u)
  (o3:∀ u ∈ olds,u.oneCell' = true) (n3:∀ u ∈ news,u.oneCell' = true) (i k:Nat) (x:List V) (c:V) (hx:(es++fs)[i]? = some x) (hc:x[k]? = some c):∃ u,(olds++news)[i*size+k]? = some u/\u.oneCell' = true/\VRel C w c u:=by
 by_cases hi:i<es.length
 .rw[List.getElem?_append_left hi] at hx;obtain⟨u,h1,h2⟩:=o2 i k x c hx hc;refine⟨u,?_,o3 u (List.mem_of_getElem? h1),h2⟩;rw[List.getElem?_append_left (List.getElem?_eq_some_iff.1 h1).1]; exact h1
 .rw[List.getElem?_append_right (by omega)] at hx;obtain⟨u,h1,h2⟩:=n2 _ k x c hx hc;refine⟨u,?_,n3 u (List.mem_of_getElem? h1),h2⟩;have e1:i*size=es.length*size+(i-es.length)*size:=by rw[<-Nat.add_mul]; congr 1; omega
  rw[List.getElem?_append_right (by rw[o1]; omega),o1,e1,show es.length*size+(i-es.length)*size+k-es.length*size=(i-es.length)*size+k by omega];exact h1
theorem Qacd(hT:TblOk P tb){N:Nat}{G:Gh}{σ : St}{a:Act}{w:World}(hR:Rel N G σ a w){K:D->St->Prop}(ty:TypeId){t:Nat}{x y:D}{u v:Value}(hx:DRel G w x u)(hy:DRel G w y v)(h:xApp tb t x y σ K) :
  ResX N G a w ((Builtin.append_ #[t,t] ty #[u,v]>>=λx=>Pure.pure (Next.value x):Sem Next).run P w) K:=by
 unfold xApp at h;split at h
 .rename_i ti fl fs ht hfs;have hy:=Qfe hy hfs;obtain⟨ya,yc,rfl,d1,d2,-⟩:=hy.isSlice;split at h
  .rename_i e hd;split at h
   .rename_i te he;split at h
    .rename_i hz;obtain⟨hz,hz0⟩:=hz;split at h
     .rename_i tk vv e' sz es;split at h
      .rename_i hes;obtain⟨rfl,rfl⟩:=hes;obtain⟨hl,⟨hfl,hby,hmax⟩,v', hv', es', hle,hK⟩:=h;obtain⟨T,t1,t0,t2,hX⟩:=Qli hR.inv hx hl;cases hX with
       | sl _ _ _ ad cap hna hrow =>
        obtain⟨w1,w2,w3,w4⟩:=hrow;by_cases hm:fs.length=0
        .have hfs0:fs=[]:=List.eq_nil_of_length_eq_zero hm;subst hfs0;rw[List.append_nil] at hle;have hrun:(Builtin.append_ #[t,t] ty #[.slice ad es.length cap,.slice ya 0 yc]).run P w = .ok (.slice ad es.length cap) w:=Qld hT w ty ht hd he ad es.length cap w2 ya yc;rcases w4 with ⟨w4,w5⟩ | ⟨b,us,w4,w5,w6,w7,w8,w9⟩
         .obtain⟨s2,i2⟩:=Qje hR.inv t1 t0 (v:=v') (by omega) (bk:=none) rfl rfl rfl (Nat.le_refl _) (λk hk hne=>rfl) (λg hg=>by cases hg) (.refl w);refine⟨.slice ad es.length cap,w,_,_,⟨σ.env,⟨σ.s.heap,σ.s.live.set tk v'⟩⟩,.inl (by simp[hrun]),s2,⟨i2,hR.env.mono s2,hR.size⟩,?_,hK⟩;refine .x _ _ _ _ ⟨v', none,0,none⟩ (Qgq t1) rfl (Nat.le_refl _) rfl λ_=>?_
          rw[show es.length=es'.length from hle.1];exact .sl _ _ es' ad cap hna (XRow.le ⟨w1,w2,w3,.inl ⟨w4,w5⟩⟩ hle)
         .obtain⟨s2,i2⟩:=Qje hR.inv t1 t0 (v:=v') (by omega) (bk:=some b) rfl rfl rfl (Nat.le_refl _) (λk hk hne=>rfl) (λg hg=>by cases hg; exact⟨(hR.inv.tok tk T b t1 (.inl w5)).1,.inr ⟨w5,w6⟩⟩) (.refl w);refine⟨.slice ad es.length cap,w,_,_,⟨σ.env,⟨σ.s.heap,σ.s.live.set tk v'⟩⟩,.inl (by simp[hrun]),s2,⟨i2,hR.env.mono s2,hR.size⟩,?_,hK⟩;refine .x _ _ _ _ ⟨v', some b,0,none⟩ (Qgq t1) rfl (Nat.le_refl _) rfl λ_=>?_
          rw[show es.length=es'.length from hle.1];exact .sl _ _ es' ad cap hna (XRow.le ⟨w1,w2,w3,.inr ⟨b,us,w4,rfl,rfl,w7,w8,w9⟩⟩ hle)
        .have hz2:0<te.size:=hz0;obtain⟨news,n1,n2,n3,n4⟩:=hy.flat te.size hfl hz0;rcases n4 with n4 | ⟨b', off', rfl,n4⟩
         .exact absurd n4 hm
         obtain⟨olds,o1,o2,o3,o4,own,hown,hT1⟩:∃ olds:List Value,olds.length=es.length*te.size/\(∀ (i k:Nat) e c,es[i]? = some e->e[k]? = some c->∃ u,olds[i*te.size+k]? = some u/\VRel G.com w c u)/\(∀ u ∈ olds,u.oneCell' = true) /\
           (es.length=0\/∃ b off,ad=some ⟨b,off,none⟩/\∀ (j:Nat) u,olds[j]? = some u->w.cell? ⟨b,off+j,none⟩=some u) /\
           ∃ own:Option Nat,(cap=es.length\/∃ (b:Nat) (us:Array Value),ad=some ⟨b,0,none⟩/\own=some b/\w.heap[b]? = some (.cells us e' (0,0))/\us.size=cap*te.size)/\(∀ g,own=some g->T.blk=some g/\T.cells=0):=by
          rcases w4 with ⟨w4,w5⟩ | ⟨b,us,w4,w5,w6,w7,w8,w9⟩
          .have h0:es=[]:=List.eq_nil_of_length_eq_zero (by omega);subst h0;exact⟨[],by simp,λi k e c h=>by simp at h,λu h=>(nomatch h),.inl rfl,none,.inl (by simp[w4]),λg h=>by cases h⟩
          .have hle2:es.length*te.size<=us.size:=by rw[w8]; exact Nat.mul_le_mul_right _ w2
           have key:∀ (i k:Nat) e c,es[i]? = some e->e[k]? = some c->i*te.size+k<es.length*te.size:=λi k e c he hc=>by
            have hi:=(List.getElem?_eq_some_iff.1 he).1;have hk:k<te.size:=by rw[<-w1 e (List.mem_of_getElem? he)]; exact(List.getElem?_eq_some_iff.1 hc).1
            have:(i+1)*te.size<=es.length*te.size:=Nat.mul_le_mul_right _ hi;rw[Nat.add_mul] at this; omega
           refine⟨us.toList.take (es.length*te.size),by simp; omega,λi k e c he hc=>?_,λu hu=>?_,.inr ⟨b,0,w4,λj u hj=>?_⟩,some b,.inr ⟨b,us,w4,rfl,w7,w8⟩,λg hg=>by cases hg; exact⟨w5,w6⟩⟩
           .obtain⟨u,q1,q2,q3⟩:=w9 i k e c he hc;refine⟨u,?_,q3⟩;rw[List.getElem?_take,if_pos (key i k e c he hc)];simpa using q1
           .obtain⟨j,hj⟩:=List.getElem?_of_mem hu;rw[List.getElem?_take] at hj;split at hj
            .rename_i hjl;have h1:j / te.size<es.length:=Nat.div_lt_of_lt_mul (by rw[Nat.mul_comm]; exact hjl);have h2:j % te.size<(es[j / te.size]).length:=by rw[w1 _ (List.getElem_mem h1)]; exact Nat.mod_lt _ hz0
             obtain⟨u', q1,q2,q3⟩:=w9 (j / te.size) (j % te.size) _ _ (List.getElem?_eq_getElem h1) (List.getElem?_eq_getElem h2);have e1:j / te.size*te.size+j % te.size=j:=by rw[Nat.mul_comm]; exact Nat.div_add_mod j te.size
             rw[e1] at q1;have:us[j]? = some u:=by simpa using hj
             rw[q1] at this;cases this;exact q2
            .cases hj
           .rw[List.getElem?_take] at hj;split at hj
            .rw[cell_of_row w b _ us e' (0,0) w7,Nat.zero_add]; simpa using hj
            .cases hj
         obtain⟨g,cap', w', hr,hG⟩:=Qq1 hT w ty ht hd he hz ad es.length cap olds o1 o4 hna w2 w3 own hown b' off' fs.length yc news n1 (λj u hj=>(n4 j u hj).1) n3 (by omega) (by unfold maxLen; exact hmax) hby
         obtain⟨cur,r1,r2,r3⟩:=hG.row0;have hgw:w.heap.size<=g\/(T.blk=some g/\T.cells=0):=hG.which.imp (λh=>by omega) (hT1 g);obtain⟨s2,i2⟩:=Qje hR.inv t1 t0 (v:=v') (by omega) (bk:=some g) hG.os hG.tape hG.output hG.size_le (λk hk hne=>hG.old k hk λe=>hne (by rw[e])) (λg' hg' => by cases hg'; exact⟨(Array.getElem?_eq_some_iff.1 r1).1,hgw⟩) hG.shp;refine⟨.slice (some ⟨g,0,none⟩) (es.length+fs.length) cap', w', _,_,⟨σ.env,⟨σ.s.heap,σ.s.live.set tk v'⟩⟩,.inl (by simp[hr]),s2,⟨i2,hR.env.mono s2,hR.size⟩,?_,hK⟩;refine .x _ _ _ _ ⟨v', some g,0,none⟩ (Qgq t1) rfl (Nat.le_refl _) rfl λ_=>?_
         rw[show es.length+fs.length=es'.length by rw[<-hle.1,List.length_append]];refine .sl _ _ es' _ cap' (λh=>by cases h) (XRow.le (es:=es++fs) ⟨λx hx=>(List.mem_append.1 hx).elim (w1 x) (hfl x),by simpa using hG.fits,hG.max,.inr ⟨g,cur,rfl,rfl,rfl,r1,r2,λi k x c hx' hc=>?_⟩⟩ hle);obtain⟨u,p1,p2,p3⟩:=Q6g o1 o2 n2 o3 n3 i k x c hx' hc;refine⟨u,?_,p2,p3.mono s2.ext.size s2.ext.com⟩;rw[<-r3,List.getElem?_take] at p1;split at p1
         .simpa using p1
         .cases p1
      .exact h.elim
     .rename_i es;obtain⟨hc0,hes,⟨hfl,hby,hmax⟩,es', hle,hK⟩:=h;have hx:VRel G.com w (.sl true es) u:=by cases hx with | p _ _ hx=>exact hx
      obtain⟨xa,xc,rfl,c1,c2,c3,c4⟩:=hx.isSlice;by_cases hm:fs.length=0
      .have hfs0:fs=[]:=List.eq_nil_of_length_eq_zero hm;have hes0:es=[]:=List.eq_nil_of_length_eq_zero (by omega);subst hfs0; subst hes0;have hxc:xc=0:=c3 rfl;subst hxc;obtain⟨G', s1,r1,d1⟩:=Qaaw hR (e:=e) (size:=te.size) (ad:=xa) hle;exact⟨_,w,G', _,_,.inl (by simp[Qld hT w ty ht hd he xa 0 0 (Nat.le_refl _) ya yc]),s1,r1,d1,hK⟩
      .obtain⟨olds,o1,o2,o3,o4⟩:=hx.flat te.size hes hz0;obtain⟨news,n1,n2,n3,n4⟩:=hy.flat te.size hfl hz0;rcases n4 with n4 | ⟨b', off', rfl,n4⟩
       .exact absurd n4 hm
       have ha:xa=none->xc=0:=λh0=>by
        cases hx with
        | sl _ _ _ _ _ _ _ _ _ _ _ _ g5=>exact g5 h0
       obtain⟨g,cap', w', hr,hG⟩:=Qq1 hT w ty ht hd he hz xa es.length xc olds o1 (o4.imp id λ⟨b,off,q1,q2⟩=>⟨b,off,q1,λj u hj=>(q2 j u hj).1⟩) ha c1 c2 none (.inl (c3 rfl)) b' off' fs.length yc news n1 (λj u hj=>(n4 j u hj).1) n3 (by omega) (by unfold maxLen; exact hmax) hby
       have hg:g=w.heap.size:=by rcases hG.which with h | h; exact h; cases h
       subst hg;obtain⟨cur,r1,r2,r3⟩:=hG.row0;obtain⟨G', s1,rr,dd⟩:=Q24 hR (e:=e) (size:=te.size) (cap:=cap') (es:=es++fs) (us:=cur) hG.os hG.tape hG.output hG.size_le (λk hk=>hG.old k hk (by omega)) hG.shp r1 r2 (by simpa using hG.fits) hG.max
        (λx hx=>(List.mem_append.1 hx).elim (hes x) (hfl x)) (λi k x c hx' hc=>by
         obtain⟨u,p1,p2,p3⟩:=Q6g o1 o2 n2 o3 n3 i k x c hx' hc;refine⟨u,?_,p2,p3⟩;rw[<-r3,List.getElem?_take] at p1;split at p1
         .simpa using p1
         .cases p1) hle
       rw[List.length_append] at dd;exact⟨_,w', G', _,_,.inl (by simp[hr]),s1,rr,dd,hK⟩
     .exact h.elim
    .exact h.elim
   .exact h.elim
  .exact h.elim
 .exact h.elim
theorem Q6h(hT:TblOk P tb){N:Nat}{G:Gh}{σ : St}{a:Act}{w:World}(hR:Rel N G σ a w){K:D->St->Prop}{t:Nat}{x i:D}{u v:Value}(hx:DRel G w x u)(hi:DRel G w i v)(h:Qxv tb t x i σ K) :
  ResX N G a w ((Instr.indexAt t u v>>=λx=>Pure.pure (Next.value x):Sem Next).run P w) K:=by
 unfold Qxv at h;split at h
 .rename_i ti k n tk vv e sz es ht;have hv:v = .int k n:=by cases hi with | p x u hi=>cases hi; rfl
  subst hv;split at h
  .rename_i e' hd;split at h
   .rename_i te he;split at h
    .rename_i hsz;subst hsz;obtain⟨hl,c,h0,hc,hcl,hz,hK⟩:=h;obtain⟨T1,t1,t0,t2,hX⟩:=Qli hR.inv hx hl;have hu:=hT.und ht;rw[hd] at hu;cases hX with
     | sl _ _ _ ad cap hna hrow =>
      have hlt:n<es.length:=by have:=(List.getElem?_eq_some_iff.1 hc).1; omega
      have hr0:=hrow;obtain⟨w1,w2,w3,w4⟩:=hrow;rcases w4 with ⟨w4,-⟩ | ⟨b,us,rfl,w5,w6,w7,w8,w9⟩
      .omega
      .have hr:(Instr.indexAt t (.slice (some ⟨b,0,none⟩) es.length cap) (.int k n)).run P w = .ok (.pointer (some ⟨b,n.toNat*te.size,none⟩)) w:=by
        simp[Instr.indexAt,run_underlying hu,asIntOf,h0,hlt,hT.sz he,Qrj]
       refine Out.resX hR hr ?_ hK;exact .x _ _ _ _ T1 t1 t0 (by omega) rfl λ_ =>.el _ _ es n.toNat c 0 b cap hc hr0
    .exact h.elim
   .exact h.elim
  .exact h.elim
 .exact h.elim
theorem Q8x(hT:TblOk P tb){N:Nat}{G:Gh}{σ : St}{a:Act}{w:World}(hR:Rel N G σ a w){K:D->St->Prop}{t:Nat}{x:D}{u:Value}(hx:DRel G w x u)(h:Q8t tb t x σ K) :
  ResX N G a w ((Instr.loadAt t u>>=λx=>Pure.pure (Next.value x):Sem Next).run P w) K:=by
 unfold Q8t at h;split at h
 .rename_i ti tk vv e sz es i c off ht;obtain⟨hl,hlen,h⟩:=h;obtain⟨T1,t1,t0,t2,hX⟩:=Qli hR.inv hx hl;cases hX with
  | el _ _ _ _ _ _ b cap hc hrow =>
   obtain⟨w1,w2,w3,w4⟩:=hrow;have hi:=(List.getElem?_eq_some_iff.1 hc).1;rcases w4 with ⟨w4,-⟩ | ⟨b', us,hb,w5,w6,w7,w8,w9⟩
   .omega
   .cases hb;have hcs:=w1 c (List.mem_of_getElem? hc);have cell:∀ j (hj:j<c.length),∃ u', us[i*sz+j]? = some u' /\ u'.oneCell' = true/\VRel G.com w c[j] u' := λj hj=>w9 i j c c[j] hc (List.getElem?_eq_getElem hj)
    have hle:i*sz+sz<=us.size:=by
     have:(i+1)*sz<=cap*sz:=Nat.mul_le_mul_right _ (by omega);rw[Nat.add_mul] at this; omega
    have hcell:∀ (j:Nat) u,((us.toList.drop (i*sz+off)).take (c.length-off))[j]? = some u->w.cell? ⟨b,i*sz+off+j,none⟩=some u:=λj u hu=>by
     rw[cell_of_row w b _ us e (0,0) w7];rw[List.getElem?_take] at hu;split at hu
     .rw[List.getElem?_drop] at hu; simpa using hu
     .cases hu
    have hll:((us.toList.drop (i*sz+off)).take (c.length-off)).length=c.length-off:=by simp; omega
    have get:∀ (j:Nat) y u,(c.drop off)[j]? = some y->((us.toList.drop (i*sz+off)).take (c.length-off))[j]? = some u->u.oneCell' = true/\VRel G.com w y u:=λj y u hy hu=>by
     rw[List.getElem?_drop] at hy;obtain⟨hj,hy⟩:=List.getElem?_eq_some_iff.1 hy;obtain⟨u', q1,q2,q3⟩:=cell (off+j) hj;rw[List.getElem?_take,if_pos (by omega),List.getElem?_drop] at hu;have hu:us[i*sz+(off+j)]? = some u:=by rw[<-Nat.add_assoc]; simpa using hu
     rw[q1] at hu;cases hu;rw[<-hy];exact⟨q2,q3⟩
    obtain⟨r1,r2⟩:=Qm4 hT ht w b (i*sz+off) _ hcell;unfold Qxg at h;split at h
    .rename_i ha;split at h
     .rename_i hl2;refine Out.resX hR (r1 ha (by rw[hll]; omega)) ?_ h;refine .p _ _ (.agg _ _ (by simp only[List.length_take,List.size_toArray,hll,List.length_drop]) (λj y u hc' hu=>?_) (λj y u hc' hu=>?_))
      all_goals
       rw[List.getElem?_take] at hc';split at hc'
       .rename_i hj;have hu2:(((us.toList.drop (i*sz+off)).take (c.length-off)).take ti.size)[j]? = some u:=by simpa using hu
        rw[List.getElem?_take,if_pos hj] at hu2
        first
         | exact(get j y u hc' hu2).1
         | exact(get j y u hc' hu2).2
       .cases hc'
     .exact h.elim
    .rename_i ha;split at h
     .rename_i y r hy;have h0:0<c.length-off:=by have:=congrArg List.length hy; simp at this; omega
      have hlt:0<((us.toList.drop (i*sz+off)).take (c.length-off)).length:=by rw[hll]; exact h0
      refine Out.resX hR (r2 ha _ (List.getElem?_eq_getElem hlt)) ?_ h;exact .p _ _ (get 0 y _ (by rw[hy]; rfl) (List.getElem?_eq_getElem hlt)).2
     .exact h.elim
 .exact h.elim
theorem Q6i(hT:TblOk P tb){N:Nat}{G:Gh}{σ : St}{a:Act}{w:World}(hR:Rel N G σ a w){K:D->St->Prop}{t f:Nat}{x:D}{u:Value}(hx:DRel G w x u)(h:Qxw tb t x f σ K) :
  ResX N G a w ((Instr.fieldAt t u f>>=λx=>Pure.pure (Next.value x):Sem Next).run P w) K:=by
 unfold Qxw at h;split at h
 .rename_i ti tk vv e sz es i c off ht;split at h
  .rename_i fields hd;split at h
   .rename_i fd hf;split at h
    .rename_i tf htf;split at h
     .exact h.elim
     .rename_i hz;obtain⟨hl,h⟩:=h;obtain⟨T1,t1,t0,t2,hX⟩:=Qli hR.inv hx hl;cases hX with
      | el _ _ _ _ _ _ b cap hc hrow =>
       have hu:=hT.und ht;rw[hd] at hu;have hr:(Instr.fieldAt t (.pointer (some ⟨b,i*sz+off,none⟩)) f).run P w = .ok (.pointer (some ⟨b,i*sz+(off+fd.offset),none⟩)) w:=by
        simp[Instr.fieldAt,run_underlying hu,hf,Instr.sureAddr,fieldPlace,hT.sz htf,hz,Qrj,Nat.add_assoc]
       refine Out.resX hR hr ?_ h;exact .x _ _ _ _ T1 t1 t0 (by omega) rfl λ_ =>.el _ _ es i c (off+fd.offset) b cap hc hrow
    .exact h.elim
   .exact h.elim
  .exact h.elim
 .exact h.elim
theorem Qace(hT:TblOk P tb){N:Nat}{G:Gh}{σ : St}{a:Act}{w:World}(hR:Rel N G σ a w){K:D->St->Prop}(ty:TypeId){t:Nat}{x:D}{u:Value}(hx:DRel G w x u)(h:xLen tb t x σ K) :
  ResX N G a w ((Builtin.len_ #[t] ty #[u]>>=λx=>Pure.pure (Next.value x):Sem Next).run P w) K:=by
 unfold xLen at h;split at h
 .rename_i ti tk vv e sz es ht;split at h
  .rename_i e' hd;obtain⟨hl,n,hn,hK⟩:=h;obtain⟨T1,t1,t0,t2,hX⟩:=Qli hR.inv hx hl;have hu:=hT.und ht;rw[hd] at hu;cases hX with
   | sl _ _ _ ad cap hna hrow =>
    have hr:(Builtin.len_ #[t] ty #[.slice ad es.length cap]).run P w = .ok (.int .i64 n) w:=by simp[Builtin.len_,run_underlying hu,goInt,hn]
    exact Out.resX hR hr (.p _ _ (.v _ rfl)) hK
  .exact h.elim
 .exact h.elim
theorem Q6j(hT:TblOk P tb){N:Nat}{G:Gh}{σ : St}{a:Act}{w:World}(hR:Rel N G σ a w){K:D->St->Prop}{hm:Home}{t:Nat}{x y:D}{u v:Value}(hx:DRel G w x u)(hy:DRel G w y v)(h:Qad7 tb hm t x y σ K) :
  ∃ w' G' σ', (Instr.storeAt t u v).run P w = .ok () w' /\ Stp G w G' w' /\ Rel N G' σ' a w' /\ K .undef σ' := by
 unfold Qad7 at h;split at h
 .rename_i ti tk vv e sz es i c off vs ht hvs;obtain⟨hvl,hoff,hl,hg,es', hle,hK⟩:=h;obtain⟨T1,t1,t0,t2,hX⟩:=Qli hR.inv hx hl;cases hX with
  | el _ _ _ _ _ _ b cap hc hrow =>
   obtain⟨w1,w2,w3,w4⟩:=hrow;have hi:=(List.getElem?_eq_some_iff.1 hc).1;rcases w4 with ⟨w4,-⟩ | ⟨b', us,hb,w5,w6,w7,w8,w9⟩
   .omega
   .cases hb;obtain⟨z,hz,hzu⟩:=Option.bind_eq_some_iff.1 hvs;have hr:=Qdz hy hz;obtain⟨q1,q2⟩:=Qhm (G:=G) (w:=w) z vs hzu;have hcs:=w1 c (List.mem_of_getElem? hc);have hlen:v.cells.toList.length=vs.length:=by rw[Array.length_toList,hr.1,q1]
    have hle2:i*sz+sz<=us.size:=by
     have:(i+1)*sz<=cap*sz:=Nat.mul_le_mul_right _ (by omega);rw[Nat.add_mul] at this; omega
    have vcell:∀ (j:Nat) y u,vs[j]? = some y->v.cells[j]? = some u->u.oneCell' = true/\VRel G.com w y u:=λj y u hy hu=>by
     obtain⟨d,d1,d2⟩:=q2 j y hy;have:=hr.2 j d u d1 hu;exact⟨this.1,Qfe this.2 d2⟩
    have hst:=run_storeCells_at P b (i*sz+off) e v.cells.toList 0 us w w7 (by rw[hlen]; omega) (λx hx=>by
     obtain⟨j,hj⟩:=List.getElem?_of_mem hx;have hj2:j<vs.length:=by rw[<-hlen]; exact(List.getElem?_eq_some_iff.1 hj).1
     exact(vcell j vs[j] x (List.getElem?_eq_getElem hj2) (by simpa using hj)).1)
    simp only[Nat.add_zero] at hst;generalize hus' : (us.toList.take (i*sz+off)++v.cells.toList++us.toList.drop (i*sz+off+v.cells.toList.length)).toArray=us' at hst;have hus's:us'.size=us.size:=by rw[<-hus']; simp only[List.size_toArray,List.length_append,List.length_take,List.length_drop,hlen,Array.length_toList]; omega
    have hrun:(Instr.storeAt t (.pointer (some ⟨b,i*sz+off,none⟩)) v).run P w = .ok () (w.setRow b us'):=by
     have e:v.cells.size=ti.size:=by rw[hr.1,<-q1]; exact hvl
     simp only[Instr.storeAt,Instr.sureAddr,storeVar,Sem.run_bind,Sem.run_pure,Result.andThen_ok,hT.sz ht,e];simpa using hst
    obtain⟨s2,i2⟩:=Qje hR.inv (w' := w.setRow b us') t1 t0 (v:=vv+1) (by omega) (bk:=some b) rfl rfl rfl (by simp[World.setRow]) (λk hk hne=>setRow_other w b k _ λe=>hne (by rw[e])) (λg hg=>by
     cases hg;exact⟨by simp only[World.setRow,Array.size_modify]; exact(Array.getElem?_eq_some_iff.1 w7).1,.inr ⟨w5,w6⟩⟩) (Qq0 w7 hus's)
    have hnew:(w.setRow b us').heap[b]? = some (.cells us' e (0,0)):=setRow_heap w b us us' e (0,0) w7;have hbn:b ∉ G.name:=(hR.inv.tok tk T1 b t1 (.inl w5)).2.1;have cells' : ∀ (i' k:Nat) x y,(es.set i (xput c vs off))[i']? = some x->x[k]? = some y->∃ u,us'[i' * sz+k]? = some u/\u.oneCell' = true/\VRel G.com w y u:=λi' k x y hx' hy' => by
     have hgo:∀ j,us'[j]? = (us.toList.take (i*sz+off)++(v.cells.toList++us.toList.drop (i*sz+off+v.cells.toList.length)))[j]? := λj=>by rw[<-hus', List.getElem?_toArray,List.append_assoc]
     have t1l:(us.toList.take (i*sz+off)).length=i*sz+off:=by simp; omega
     by_cases hii:i' = i
     .subst hii;rw[List.getElem?_set_self hi] at hx';cases hx';have hxl:(xput c vs off).length=c.length:=by unfold xput; simp only[List.length_append,List.length_take,List.length_drop]; omega
      have hk:k<c.length:=by rw[<-hxl]; exact(List.getElem?_eq_some_iff.1 hy').1
      have t2:(c.take off).length=off:=by simp; omega
      unfold xput at hy';rw[List.append_assoc] at hy';by_cases h1:k<off
      .rw[List.getElem?_append_left (by omega),List.getElem?_take,if_pos h1] at hy';obtain⟨u,p1,p2⟩:=w9 i' k c y hc hy';refine⟨u,?_,p2⟩;rw[hgo,List.getElem?_append_left (by omega),List.getElem?_take,if_pos (by omega)];simpa using p1
      .rw[List.getElem?_append_right (by omega),t2] at hy';by_cases h2:k-off<vs.length
       .rw[List.getElem?_append_left h2] at hy';have hk2:k-off<v.cells.size:=by rw[<-Array.length_toList,hlen]; exact h2
        refine⟨v.cells[k-off],?_,vcell _ y _ hy' (Array.getElem?_eq_getElem hk2)⟩;rw[hgo,List.getElem?_append_right (by omega),t1l,show i' * sz+k-(i' * sz+off)=k-off by omega,List.getElem?_append_left (by rw[hlen]; exact h2)];simp[hk2]
       .rw[List.getElem?_append_right (by omega),List.getElem?_drop] at hy';rw[show off+vs.length+(k-off-vs.length)=k by omega] at hy';obtain⟨u,p1,p2⟩:=w9 i' k c y hc hy';refine⟨u,?_,p2⟩;rw[hgo,List.getElem?_append_right (by omega),t1l,List.getElem?_append_right (by rw[hlen]; omega),hlen,List.getElem?_drop,show i' * sz+off+vs.length+(i' * sz+k-(i' * sz+off)-vs.length)=i' * sz+k by omega];simpa using p1
     .rw[List.getElem?_set_ne (λe=>hii e.symm)] at hx';obtain⟨u,p1,p2⟩:=w9 i' k x y hx' hy';refine⟨u,?_,p2⟩;have hk:k<sz:=by rw[<-w1 x (List.mem_of_getElem? hx')]; exact(List.getElem?_eq_some_iff.1 hy').1
      rcases Nat.lt_or_gt_of_ne hii with h1 | h1
      .have:(i' + 1)*sz<=i*sz:=Nat.mul_le_mul_right _ h1;rw[Nat.add_mul] at this;rw[hgo,List.getElem?_append_left (by omega),List.getElem?_take,if_pos (by omega)];simpa using p1
      .have:(i+1)*sz<=i' * sz:=Nat.mul_le_mul_right _ h1;rw[Nat.add_mul] at this;rw[hgo,List.getElem?_append_right (by omega),t1l,List.getElem?_append_right (by rw[hlen]; omega),hlen,List.getElem?_drop,show i*sz+off+vs.length+(i' * sz+k-(i*sz+off)-vs.length)=i' * sz+k by omega];simpa using p1
    have hrel:=Qtl hR s2 (live' := σ.s.live.set tk (vv+1)) i2 rfl (λb' hb' => setRow_other w b b' _ λe=>hbn (e ▸ hb')) hg (d1 :=.x tk (vv+1) (.sl e sz es')) (λu hu=>by
     obtain⟨T2,x1,x0,x2,hX2⟩:=Qli hR.inv hu hl;rw[t1] at x1;obtain rfl:=Option.some.inj x1;cases hX2 with
     | sl _ _ _ ad cap' hna hrow' =>
      obtain⟨v1,v2,v3,v4⟩:=hrow';rcases v4 with ⟨v4,-⟩ | ⟨b2,us2,rfl,v5,v6,v7,v8,v9⟩
      .omega
      .rw[w5] at v5;cases v5;rw[w7] at v7;cases v7;refine⟨.x _ _ _ _ ⟨vv+1,some b,0,none⟩ (Qgq t1) rfl (Nat.le_refl _) rfl λ_=>?_,rfl⟩;have hlen' : es.length=es'.length:=by rw[<-hle.1]; simp
       rw[hlen'];refine .sl e sz es' _ cap' (λh=>by cases h) (XRow.le (es:=es.set i (xput c vs off)) ⟨λx hx=>?_,by simpa using v2,v3,.inr ⟨b,us', rfl,rfl,rfl,hnew,by rw[hus's]; exact v8,λi' k x y hx hy=>?_⟩⟩ hle)
       .rcases List.mem_or_eq_of_mem_set hx with hx | rfl
        .exact w1 x hx
        .unfold xput; simp only[List.length_append,List.length_take,List.length_drop]; omega
       .obtain⟨u,p1,p2,p3⟩:=cells' i' k x y hx hy;exact⟨u,p1,p2,p3.mono s2.ext.size s2.ext.com⟩)
    exact⟨_,_,_,hrun,s2,hrel,hK⟩
 .exact h.elim
set_option maxHeartbeats 1000000 in
theorem Qacf(hT:TblOk P tb){N:Nat}{G:Gh}{σ : St}{a:Act}{w:World}(hR:Rel N G σ a w){K:D->St->Prop}{src dst:Nat}{x:D}{u:Value}(hx:DRel G w x u)(h:xS2B tb src dst x σ K) :
  ResX N G a w ((convert src dst u>>=λx=>Pure.pure (Next.value x):Sem Next).run P w) K:=by
 unfold xS2B at h;split at h
 .rename_i ti tu z h1 h2;have e1:u = .string z:=by cases hx with | p x u hx=>cases hx; rfl
  subst e1;split at h
  .rename_i e hs hd;split at h
   .rename_i te he;split at h
    .rename_i hb;obtain⟨-,hm,d', live,hle', hn,hK⟩:=h;have hm:z.size<=maxLen:=by simpa [Qau] using hm
     have hn:live = σ.s.live++[z.size]:=by simpa [Qau] using hn
     subst hn;have u1:=hT.und h1;have u2:=hT.und h2;have u3:=hT.und he;rw[hd] at u2; rw[hs] at u1; rw[hb] at u3;have hr:=run_bytes_of_string (P:=P) w src dst e z u1 u2 u3;obtain⟨C,hC⟩:∃ C,C=bytesRow z (grownCap w z.size 0 e):=⟨_,rfl⟩;rw[<-hC] at hr;have hle:z.size<=grownCap w z.size 0 e:=grownCap_ge w z.size 0 e;have hcap:=grownCap_le_maxLen w z.size 0 e hm;have hCs:C.size=grownCap w z.size 0 e:=by rw[hC]; simp only[bytesRow,Array.size_append,Array.size_map,Array.size_replicate]; show z.size+_=_; omega
     obtain⟨k1,k2⟩:=Q2q (hR.inv.drewN (w.drawn+1)) C e (C.size,C.size+1) z.size z.size;have kk:=(Stp.drewN G w (w.drawn+1)).trans k1;have hlen:((Qau z).map Qf4).length=z.size:=by simp[Qau]
     refine⟨_,_,_,d', ⟨σ.env,⟨σ.s.heap,σ.s.live++[z.size]⟩⟩,.inl (by rw[Sem.run_bind,hr]; rfl),kk,⟨k2,hR.env.mono kk,hR.size⟩,?_,hK⟩;have hll:G.tok.length = σ.s.live.length:=Qaav hR.inv;have htok:(G.tok++[(⟨z.size,some w.heap.size,z.size,none⟩:Tok)])[σ.s.live.length]? = some ⟨z.size,some w.heap.size,z.size,none⟩:=by rw[<-hll]; exact List.getElem?_concat_length
     have hv:=Qq2 (C:=λb o=>G.com b o\/(b=w.heap.size/\o<z.size)) (w:=w.drew.alloc (.cells C e (C.size,C.size+1))) w.heap.size C e (C.size,C.size+1) (heap_alloc_new w.drew _) ((Qau z).map Qf4) 1 (grownCap w z.size 0 e) (λo ho =>.inr ⟨rfl,by rw[hlen] at ho; omega⟩) false (by rw[hlen]; exact hle) hcap (λh0=>by cases h0) (λx hx=>by
      obtain⟨c,-,rfl⟩:=List.mem_map.1 hx; rfl) (λi k x c hx hc=>by
      rw[List.getElem?_map] at hx;obtain⟨y,hy,rfl⟩:=Option.map_eq_some_iff.1 hx;have hk:k=0:=by have:=(List.getElem?_eq_some_iff.1 hc).1; simp[Qf4] at this; exact this
      subst hk;have hcx:c = .v (.int .u8 y.toNat):=by simpa [Qf4] using hc.symm
      subst hcx;refine⟨.int .u8 y.toNat,?_,rfl,.v _ rfl⟩;have hi:i<z.data.size:=by have:=(List.getElem?_eq_some_iff.1 hy).1; simpa [Qau] using this
      have hx2:z.data[i]? = some y:=by simpa [Qau] using hy
      rw[Nat.mul_one,Nat.add_zero,hC,bytesRow,Array.getElem?_append_left (by simpa using hi)];simp[hx2])
     rw[hlen] at hv;refine DRel.le ?_ hle';refine .own _ _ _ _ _ ⟨z.size,some w.heap.size,z.size,none⟩ (by rw[<-hlen] at hv ⊢; exact hv) (λx hx=>by obtain⟨c,-,rfl⟩:=List.mem_map.1 hx; rfl) htok rfl (by rw[hlen]; exact Nat.le_refl _) (λ_=>?_);refine⟨some ⟨w.heap.size,0,none⟩,grownCap w z.size 0 e,by rw[hlen],.inr (.inl ⟨w.heap.size,C,_,rfl,htok,rfl,by rw[hlen,Nat.mul_one],?_,by rw[hCs,Nat.mul_one]⟩)⟩;rw[Q1i];exact⟨_,heap_alloc_new w.drew _,.inr ⟨decide_eq_true (by omega),rfl⟩⟩
    .exact h.elim
   .exact h.elim
  .exact h.elim
 .exact h.elim
theorem Q8y(hT:TblOk P tb){N:Nat}{G:Gh}{σ : St}{a:Act}{w:World}(hR:Rel N G σ a w){K:D->St->Prop}{op:BinOp}{t:Nat}{d:D}{x y:Operand}{u:Value}(hx:DRel G w d u)(h:Qakt tb op t d y σ K) :
  ResX N G a w (((do eqGuard op t x y u (a.eval y); binOp op t u (a.eval y):Sem Value)>>=λx=>Pure.pure (Next.value x):Sem Next).run P w) K:=by
 obtain⟨rfl,hy,ht,h⟩:=h;obtain rfl:=Qad9 hy;obtain⟨e,hu⟩:=Qaea hT ht;split at h
 .rename_i fl es;have hv:VRel G.com w (.sl fl es) u:=by cases hx with | p _ _ h=>exact h
  obtain⟨xa,xc,rfl,c1,-⟩:=hv.isSlice;have ha:xa=none->xc=0:=λh0=>by
   cases hv with
   | sl _ _ _ _ _ _ _ _ _ _ _ _ g5=>exact g5 h0
  refine Out.resX hR (u :=.bool xa.isNone) ?_ (.p _ _ (.v _ rfl)) (h xa.isNone λhn=>?_)
  .rw[Sem.run_bind,Qhb _ _ _ _ _ _ (by simp) (by simp),Result.andThen_ok];exact Go.Lib.run_eql_slice_nil w t e xa es.length xc 0 0 hu
  .have:=ha (by simpa using hn);exact List.eq_nil_of_length_eq_zero (by omega)
 .exact h.elim
theorem Q8z(hT:TblOk P tb){N:Nat}{G:Gh}{σ : St}{a:Act}{w:World}(hR:Rel N G σ a w){hm:Home}{K:D->St->Prop}(o:Oper)(h:Q8u tb hm o.op σ K) :
  ResX N G a w ((execOp a.eval o).run P w) K:=by
 have hev:=Qrz hR.env;unfold execOp;unfold Q8u at h;split at h
 .rename_i src dst x ho;simp only[ho];split at h
  .rename_i d hd;exact Qacf hT hR (hev _ _ hd) h
  .exact h.elim
 .rename_i t x y ho;simp only[ho];split at h
  .rename_i p q hp hq;exact Q8w hT hR (hev _ _ hp) (hev _ _ hq) h
  .exact h.elim
 .rename_i t n ps ho;simp only[ho];exact Q6f hT hR hev t n ps h
 .rename_i t x ho;simp only[ho];split at h
  .rename_i d hd;exact Q8x hT hR (hev _ d hd) h
  .exact h.elim
 .rename_i t x y ho;simp only[ho];split at h
  .rename_i p q hp hq;obtain⟨w', G', σ', hr,r1,r2,r3⟩:=Q6j hT hR (hev _ _ hp) (hev _ _ hq) h;exact⟨undef,w', G', .undef,σ', .inr ⟨by simp[hr],rfl⟩,r1,r2,.undef,r3⟩
  .exact h.elim
 .rename_i x ho;simp only[ho];split at h
  .rename_i tk v e sz es i c off hd;obtain⟨hl,h⟩:=h;have hr:=hev _ _ hd;obtain⟨T1,t1,t0,t2,hX⟩:=Qli hR.inv hr hl;cases hr2:a.eval x with
   | pointer p =>
    rw[hr2] at hr hX;cases p with
    | none=>cases hX
    | some p=>exact⟨_,w,G,_,σ,.inl rfl,.refl G w,hR,hr,h⟩
   | _=>rw[hr2] at hX; cases hX
  .exact h.elim
 .rename_i t x f ho;simp only[ho];split at h
  .rename_i d hd;exact Q6i hT hR (hev _ _ hd) h
  .exact h.elim
 .rename_i t x i ho;simp only[ho];split at h
  .rename_i p q hp hq;exact Q6h hT hR (hev _ _ hp) (hev _ _ hq) h
  .exact h.elim
 .rename_i t x lo hi mx ho;simp only[ho];split at h
  .rename_i p l q m hp hl hq hm';exact Q8v hT hR (hev _ _ hp) (Q2r hev _ _ hl) (Q2r hev _ _ hq) (hev _ _ hm') h
  .exact h.elim
 .rename_i t r ho;simp only[ho];obtain⟨rfl,h⟩:=h;exact(Q8s hR.inv t h).resX2 hR
 .rename_i t x i ok ho;simp only[ho];split at h
  .rename_i p q hp hq;exact(Q21 hT hR.inv (hev _ _ hp) (hev _ _ hq) h).resX2 hR
  .exact h.elim
 .rename_i t x i y ho;simp only[ho];split at h
  .rename_i p q r hp hq hr;obtain⟨w', s', h1,h2,h3,h4⟩:=Q22 hT hR.inv (hev _ _ hp) (hev _ _ hq) (hev _ _ hr) h;exact⟨undef,w', G,.undef,⟨σ.env,s'⟩,.inr ⟨by simp[h1],rfl⟩,h2,⟨h3,hR.env.mono h2,hR.size⟩,.undef,h4⟩
  .exact h.elim
 .rename_i op t x y t2 ho;simp only[ho];split at h
  .rename_i d hd;exact Q8y hT hR (hev _ _ hd) h
  .exact h.elim
 .rename_i c ho;simp only[ho];split at h
  .rename_i x t hc hx ht;obtain⟨e1,e2⟩:=Qgi hev _ _ hx;have hargs:∃ x1,c.args = #[x1]:=by
    have:c.args.toList.length=1:=by rw[<-e1]; rfl
    match h:c.args.toList,this with
    | [x1],_=>exact⟨x1,by rw[<-Array.toArray_toList (xs:=c.args),h]⟩
   obtain⟨x1,hargs⟩:=hargs;have htys:c.argTypes = #[t]:=by rw[<-Array.toArray_toList (xs:=c.argTypes),ht]
   have hd:=e2 0 x (a.eval x1) rfl (by rw[hargs]; rfl);have:=Qace hT hR o.type hd h;simpa [resolve,hc,invoke,builtin,hargs,htys] using this
  .rename_i x y t t' hc hx ht;split at h
   .rename_i htt;subst htt;obtain⟨e1,e2⟩:=Qgi hev _ _ hx;have hargs:∃ x1 y1,c.args = #[x1,y1]:=by
     have:c.args.toList.length=2:=by rw[<-e1]; rfl
     match h:c.args.toList,this with
     | [x1,y1],_=>exact⟨x1,y1,by rw[<-Array.toArray_toList (xs:=c.args),h]⟩
    obtain⟨x1,y1,hargs⟩:=hargs;have htys:c.argTypes = #[t,t]:=by rw[<-Array.toArray_toList (xs:=c.argTypes),ht]
    have hd:=e2 0 x (a.eval x1) rfl (by rw[hargs]; rfl);have hd2:=e2 1 y (a.eval y1) rfl (by rw[hargs]; rfl);have:=Qacd hT hR o.type hd hd2 h;simpa [resolve,hc,invoke,builtin,hargs,htys] using this
   .exact h.elim
  .exact h.elim
 .exact h.elim
def xOne(tb:Tbl)(N:Nat)(ops:List Oper)(i:Nat)(hm:Home)(σ : St)(K:St->Prop):Prop :=
 match ops[i]? with
 | none=>False
 | some o=>match Qzz ops σ.env o.guard with
  | some true=>Q8u tb hm o.op σ λd σ' => putE N σ'.env o.dst d λenv' => K ⟨env', σ'.s⟩
  | some false=>putE N σ.env o.dst .undef λenv' => K ⟨env', σ.s⟩
  | none=>False
theorem Qq5(hT:TblOk P tb){rd:Option Nat}{N:Nat}{G:Gh}{σ : St}{a:Act}{w:World}(hR:Rel N G σ a w){ops:List Oper}{i:Nat}{hm:Home}{K:St->Prop}(h:xOne tb N ops i hm σ K)
  {next:Act->World->Prop} {Q:Exit->Act->World->Prop} (hn:∀ a' w' G' σ', Stp G w G' w' -> Rel N G' σ' a' w' -> a'.defers=a.defers->K σ' -> next a' w'):wpOpIn (FW rd) 0 P ops.toArray Q i next a w:=by
 unfold xOne at h;unfold wpOpIn;split at h
 .exact h.elim
 .rename_i o ho;simp only[List.getElem?_toArray,ho];split at h
  .rename_i hw;rw[if_pos (Qjl hR ops o true hw)];obtain⟨u,w', G', d,σ', hr,r1,r2,r3,r4⟩:=Q8z hT hR o h;refine Qlf (λc hc=>?_) ?_
   .rw[hc] at h; simp[Q8u] at h
   .obtain⟨env', q1,q2⟩:=Qky r2 (.refl G' w') r2.inv r3 r4;rcases hr with hr | ⟨hr,rfl⟩
    .rw[hr]; exact hn _ _ _ _ r1 q1 (Qct _ _ _) q2
    .rw[hr]; exact hn _ _ _ _ r1 q1 (Qct _ _ _) q2
  .rename_i hw;rw[if_neg (by rw[Qjl hR ops o false hw]; simp)];refine⟨λf _=>Q50 _ _,?_⟩;obtain⟨env', q1,q2⟩:=Qky hR (.refl G w) hR.inv .undef h;exact hn _ _ _ _ (.refl G w) q1 (Qct _ _ _) q2
  .exact h.elim
def rOp:Op->Bool
 | .load _ _ | .nilCheck _ | .fieldAddr _ _ _ | .indexAddr _ _ _=>true
 | .call c=>match c.callee with | .builtin .len=>true | _=>false
 | _=>false
def isLk:Op->Bool
 | .lookup _ _ _ _=>true
 | _=>false
def rOk(base:Nat)(o:Op)(e:Operand->Option D):Bool :=
 match o with
 | .lookup _ x _ _=>match e x with | some (.mh nm)=>Nat.blt nm base | _=>false
 | o=>rOp o
theorem Qacg{mt:Nat}{x k:D}{ok:Bool}{s:S}{K:D->S->Prop}(h:Qn8 tb mt x k ok s K):∃ d,K d s/\∀ (s' : S) (K' : D->S->Prop),(∀ nm,x = .mh nm->s'.heap[nm]? = s.heap[nm]?)->K' d s' -> Qn8 tb mt x k ok s' K' := by
 unfold Qn8 at h;split at h
 .rename_i nm kx tm hkx htm;split at h
  .rename_i kt et hd;split at h
   .rename_i tk te htk hte;obtain⟨ho,fl,ms,r,z,v,b,hs,hf,hz,hle,hb,hK⟩:=h;refine⟨_,hK,λs' K' hh hk=>?_⟩;unfold Qn8;simp only[hkx,htm,hd,htk,hte];exact⟨ho,fl,ms,r,z,v,b,by rw[hh nm rfl]; exact hs,hf,hz,hle,hb,hk⟩
   .exact h.elim
  .exact h.elim
 .exact h.elim
theorem Q25{base:Nat}{o:Op}{hm:Home}{σ : St}(hr:rOk base o (ev σ.env)=true){K:D->St->Prop}(h:Q8u tb hm o σ K):∃ d,K d σ /\ ∀ (τ : St) (K' : D->St->Prop),(∀ x ∈ o.operands.toList,ev σ.env x=ev τ.env x)->(isLk o=false -> τ.s.live = σ.s.live)->(isLk o=true -> τ.s.heap.take base = σ.s.heap.take base)->K' d τ -> Q8u tb hm o τ K' := by
 cases o with
 | lookup t x i ok =>
  have h:(match ev σ.env x,ev σ.env i with | some a,some b=>Qn8 tb t a b ok σ.s λd s=>K d ⟨σ.env,s⟩ | _,_=>False):=h;have hr:(match ev σ.env x with | some (.mh nm)=>Nat.blt nm base | _=>false)=true:=hr;split at h
  .rename_i da db hda hdb;obtain⟨d,h1,h2⟩:=Qacg h;refine⟨d,h1,λτ K' he _ hl hk=>?_⟩;show(match ev τ.env x,ev τ.env i with | some a,some b=>Qn8 tb t a b ok τ.s λd s=>K' d ⟨τ.env,s⟩ | _,_=>False);rw[<-he x (by simp[Op.operands]),<-he i (by simp[Op.operands]),hda,hdb];refine h2 τ.s _ (λnm hx=>?_) hk;subst hx;rw[hda] at hr;have hb:nm<base:=by simpa [Nat.blt_eq] using hr
   have:=congrArg (·[nm]?) (hl rfl);simpa [List.getElem?_take,hb] using this
  .exact h.elim
 | load t x =>
  have h:(match ev σ.env x with | some d=>Q8t tb t d σ K | none=>False):=h;split at h
  .rename_i d hd;unfold Q8t at h;split at h
   .rename_i ti tk v a1 a2 a3 a4 c off hti;obtain⟨h1,h2,h3⟩:=h;obtain⟨y,h4,h5⟩:=Quy ti (c.drop off) σ.s (λd _=>K d σ) h3;refine⟨_,h4,λτ K' he hl _ hk=>?_⟩;show(match ev τ.env x with | some d=>Q8t tb t d τ K' | none=>False);rw[<-he x (by simp[Op.operands]),hd];simp only[Q8t,hti];exact⟨by rw[hl rfl]; exact h1,h2,h5 σ.s (λd _=>K' d τ) hk⟩
   .exact h.elim
  .exact h.elim
 | nilCheck x =>
  have h:(match ev σ.env x with | some (.x tk v (.el e sz es i c off)) => σ.s.live[tk]? = some v/\K (.x tk v (.el e sz es i c off)) σ | _=>False):=h;split at h
  .rename_i tk v e sz es i c off hd;refine⟨_,h.2,λτ K' he hl _ hk=>?_⟩;show(match ev τ.env x with | some (.x tk v (.el e sz es i c off)) => τ.s.live[tk]? = some v/\K' (.x tk v (.el e sz es i c off)) τ | _=>False);rw[<-he x (by simp[Op.operands]),hd];exact⟨by rw[hl rfl]; exact h.1,hk⟩
  .exact h.elim
 | fieldAddr t x f =>
  have h:(match ev σ.env x with | some d=>Qxw tb t d f σ K | none=>False):=h;split at h
  .rename_i d hd;unfold Qxw at h;split at h
   .rename_i ti tk v e sz es i c off hti;split at h
    .rename_i fields hfs;split at h
     .rename_i fd hfd;split at h
      .rename_i tf htf;split at h
       .exact h.elim
       .rename_i hz;refine⟨_,h.2,λτ K' he hl _ hk=>?_⟩;show(match ev τ.env x with | some d=>Qxw tb t d f τ K' | none=>False);rw[<-he x (by simp[Op.operands]),hd];simp only[Qxw,hti,hfs,hfd,htf];rw[if_neg hz];exact⟨by rw[hl rfl]; exact h.1,hk⟩
      .exact h.elim
     .exact h.elim
    .exact h.elim
   .exact h.elim
  .exact h.elim
 | indexAddr t x i =>
  have h:(match ev σ.env x,ev σ.env i with | some a,some b=>Qxv tb t a b σ K | _,_=>False):=h;split at h
  .rename_i da db hda hdb;unfold Qxv at h;split at h
   .rename_i ti k n tk v e sz es hti;split at h
    .rename_i e' he';split at h
     .rename_i te hte;split at h
      .rename_i hz;obtain⟨h1,c,h2,h3,h4,h5,h6⟩:=h;refine⟨_,h6,λτ K' he hl _ hk=>?_⟩;show(match ev τ.env x,ev τ.env i with | some a,some b=>Qxv tb t a b τ K' | _,_=>False);rw[<-he x (by simp[Op.operands]),<-he i (by simp[Op.operands]),hda,hdb];simp only[Qxv,hti,he', hte];rw[if_pos hz];exact⟨by rw[hl rfl]; exact h1,c,h2,h3,h4,h5,hk⟩
      .exact h.elim
     .exact h.elim
    .exact h.elim
   .exact h.elim
  .exact h.elim
 | call c =>
  have hr:(match c.callee with | .builtin .len=>true | _=>false)=true:=hr;split at hr
  .rename_i hc;have h:(match c.callee,evs (ev σ.env) c.args.toList,c.argTypes.toList with
    | .builtin .len,some [x],[t]=>xLen tb t x σ K
    | .builtin .append,some [x,y],[t,t']=>if t=t' then xApp tb t x y σ K else False
    | _,_,_=>False):=h
   rw[hc] at h;split at h
   .rename_i x2 ty hcal hx hty;unfold xLen at h;split at h
    .rename_i ti tk v a1 a2 es hti;split at h
     .rename_i e' he';obtain⟨h1,n,h2,h3⟩:=h;refine⟨_,h3,λτ K' he hl _ hk=>?_⟩;have e1:=Qlg (e:=ev σ.env) (e' := ev τ.env) c.args.toList λx hx=>he x (by simp[Op.operands,Call.operands,hc]; simpa using hx)
      show(match c.callee,evs (ev τ.env) c.args.toList,c.argTypes.toList with
       | .builtin .len,some [x],[t]=>xLen tb t x τ K'
       | .builtin .append,some [x,y],[t,t']=>if t=t' then xApp tb t x y τ K' else False
       | _,_,_=>False)
      rw[hc,<-e1,hx,hty];simp only[xLen,hti,he'];exact⟨by rw[hl rfl]; exact h1,n,h2,hk⟩
     .exact h.elim
    .exact h.elim
   .rename_i hcal _ _; cases hcal
   .exact h.elim
  .cases hr
 | _=>cases hr
structure SRow (w:World) (b e:Nat) (us:Array Value) (ss:List (List UInt8)):Prop where
 row:w.heap[b]? = some (.cells us e (0,0))
 len:ss.length<=us.size
 cell:∀ (i:Nat) s,ss[i]? = some s->us[i]? = some (Qd1 s)
structure Qaax (w w' : World) (b e n:Nat) (ss' : List (List UInt8)):Prop where
 os:w'.os=w.os
 tape:w'.tape=w.tape
 output:w'.output=w.output
 size:w.heap.size<=w'.heap.size
 old:∀ k,k<w.heap.size->k≠b->w'.heap[k]? = w.heap[k]?
 new:∃ us', SRow w' b e us' ss' /\ us'.size=n
def FnT(P:Program)(g:FuncId)(extra:Array Value)(ret:Bool)(ss ss' : List (List UInt8)):Prop :=
 isFn P g=true/\ss'.length<=ss.length/\(ret=false->ss'.length=ss.length)/\∀ (w:World) (a:Option Addr) (cap:Nat),ss.length<=cap->cap<=maxLen ->
  (cap=0->Calls P g (#[.slice a 0 0]++extra) w λen w' => en = .returned (if ret then .slice a 0 0 else .tuple #[])/\Below w.heap.size w w') /\
  (∀ (b:Nat) (us:Array Value) (e:Nat),a=some ⟨b,0,none⟩->us.size=cap->0<cap->SRow w b e us ss->Calls P g (#[.slice a ss.length cap]++extra) w λen w' => en = .returned (if ret then .slice a ss'.length cap else .tuple #[])/\Qaax w w' b e cap ss')
def vals:List D->Option (List Value)
 | []=>some []
 | .p (.v u)::r=>(vals r).map (u :: ·)
 | _=>none
theorem Qaay{G:Gh}{w:World}:∀ (ds:List D) (us vs:List Value),vals ds=some vs->us.length=ds.length->(∀ (j:Nat) d u,ds[j]? = some d->us[j]? = some u->DRel G w d u)->us=vs
 | [],us,vs,h,hl,_=>by cases h; exact List.eq_nil_of_length_eq_zero hl
 | d::r,[],vs,h,hl,_=>by simp at hl
 | d::r,u::us,vs,h,hl,hr=>by
  have h0:=hr 0 _ u rfl rfl;cases d with
  | p x =>
   cases x with
   | v z =>
    obtain⟨vs', h1,rfl⟩:=Option.map_eq_some_iff.1 (show(vals r).map (z :: ·)=some vs from h);have ih:=Qaay r us vs' h1 (by simpa using hl) λj d u hd hu=>hr (j+1) d u hd hu
    cases h0 with
    | p _ _ h0=>cases h0 with | v _ _=>rw[ih]
   | _=>cases h
  | _=>cases h
def Qaiw(P:Program)(hm:Home)(o:Op)(σ : St)(K:D->St->Prop):Prop :=
 match Qbk o with
 | some c=>match c.callee with
  | .value f=>match ev σ.env f,evs (ev σ.env) c.args.toList with
   | some (.fn (.func g) [] []),some (.x tk v (.sl e sz es)::ds)=>sz=1 /\ σ.s.live[tk]? = some v/\∃ ex ret ss ss' es', vals ds=some ex/\es=ss.map (λs=>[.v (Qd1 s)])/\FnT P g ex.toArray ret ss ss' /\ es' = ss'.map (λs=>[.v (Qd1 s)]) /\
    (match ret with
     | true=>K (.x tk (v+1) (.sl e 1 es')) ⟨σ.env,⟨σ.s.heap,σ.s.live.set tk (v+1)⟩⟩
     | false=>hm.get σ = some (.x tk v (.sl e 1 es))/\K (.tup []) (hm.set (.x tk (v+1) (.sl e 1 es')) ⟨σ.env,⟨σ.s.heap,σ.s.live.set tk (v+1)⟩⟩))
   | _,_=>False
  | _=>False
 | none=>False
theorem Q80{rd:Option Nat}{N:Nat}{G:Gh}{σ : St}{a:Act}{w:World}(hR:Rel N G σ a w){o:Oper}{hm:Home}{K:D->St->Prop}(h:Qaiw P hm o.op σ K)
  {next:Act->World->Prop} {Q:Exit->Act->World->Prop} (hn:∀ u w' G' d σ', Stp G w G' w' -> Rel N G' σ' a w' -> DRel G' w' d u->K d σ' -> next (a.put o.dst u) w'):o.wpIn (FW rd) 0 P a w next Q:=by
 have hev:=Qrz hR.env;unfold Qaiw at h;split at h
 rotate_left
 .exact h.elim
 rename_i c hic;have hoc:o.op = .call c:=by
  cases hop:o.op with
  | call c' =>
   rw[hop] at hic;simp only[Qbk] at hic;split at hic
   .cases hic; rfl
   .cases hic
  | _=>rw[hop] at hic; cases hic
 split at h
 rotate_left
 .exact h.elim
 rename_i f hc;split at h
 rotate_left
 .exact h.elim
 rename_i g tk v e sz es ds hf hds;obtain⟨rfl,hl,ex,ret,ss,ss', es', hvals,rfl,⟨hfn,hle,hleq,hcall⟩,rfl,hK⟩:=h;have hfv:a.eval f = .func (.func g) #[] #[]:=by
  have:=hev f _ hf;generalize a.eval f=q at this;cases this with
  | fn _ _ _ us vs h1 h2 h3 h4 =>
   have e1:us = #[]:=Array.eq_empty_of_size_eq_zero h1.symm;have e2:vs = #[]:=Array.eq_empty_of_size_eq_zero h2.symm;rw[e1,e2]
 obtain⟨e1,e2⟩:=Qgi hev _ _ hds;obtain⟨x,xs,hargs⟩:∃ x xs,c.args.toList=x::xs:=by
  cases hca:c.args.toList with
  | nil=>rw[hca] at e1; simp at e1
  | cons x xs=>exact⟨x,xs,rfl⟩
 have hA:(c.args.map a.eval).toList=a.eval x::xs.map a.eval:=by rw[Array.toList_map,hargs]; rfl
 have hx:DRel G w (.x tk v (.sl e 1 (ss.map λs=>[.v (Qd1 s)]))) (a.eval x):=e2 0 _ _ rfl (by rw[hargs]; rfl);have hxs:xs.map a.eval=ex:=Qaay (G:=G) (w:=w) ds _ ex hvals (by rw[hargs] at e1; simp at e1 ⊢; omega) λj d u hd hu=>by
  refine e2 (j+1) d u hd ?_;rw[hargs];simpa using hu
 have hargs' : c.args.map a.eval = #[a.eval x]++ex.toArray:=by
  apply Array.toList_inj.1;rw[hA,hxs]; simp
 obtain⟨T1,t1,t0,t2,hX⟩:=Qli hR.inv hx hl;have hrun:(execOp a.eval o).run P w = .ok (.enter g (#[a.eval x]++ex.toArray)) w:=by
  unfold execOp;simp only[hoc];rw[<-hargs'];simp[resolve,hc,hfv,Deferred.ofValue,invoke,Qpw hfn]
 refine Qlf (by rw[hoc]; intro c; simp) ?_;rw[hrun,Oper.uponIn_enter];refine⟨FW_n _,Qtg ?_⟩;generalize a.eval x=ux at hX hx ⊢;cases hX with
 | sl _ _ _ ad cap hna hrow =>
 rw[List.length_map] at *;obtain⟨r1,r2,r3,r4⟩:=hrow;obtain⟨hc0,hc1⟩:=hcall w ad cap (by simpa using r2) r3;rcases r4 with ⟨r4,r5⟩ | ⟨b,us,rfl,r5,r6,r7,r8,r9⟩
 ·
  subst r4;have hss:ss=[]:=List.eq_nil_of_length_eq_zero (by simpa using r2);subst hss;have hss' : ss' = []:=List.eq_nil_of_length_eq_zero (by simpa using hle);subst hss';refine(hc0 rfl).mono λen w' ⟨he,hb⟩=>?_
  subst he;obtain⟨bk,hbk1,hbk2⟩:∃ bk:Option Nat,(∀ g,bk=some g->T1.blk=some g/\T1.cells=0)/\∀ g,T1.blk=some g->T1.cells=0->bk=some g:=by
   by_cases h0:T1.cells=0
   .exact⟨T1.blk,λg hg=>⟨hg,h0⟩,λg hg _=>hg⟩
   .exact⟨none,λg hg=>(nomatch hg),λg _ h=>absurd h h0⟩
  obtain⟨s2,i2⟩:=Qje hR.inv (w' := w') t1 t0 (v:=v+1) (by omega) (bk:=bk) hb.os hb.tape hb.output hb.size (λk hk hne=>hb.block k hk)
   (λg hg=>⟨Nat.lt_of_lt_of_le (hR.inv.tok tk T1 g t1 (.inl (hbk1 g hg).1)).1 hb.size,.inr (hbk1 g hg)⟩) (λk sh hk=>by rw[Qjd (hb.block k (Qn1 hk))]; exact hk)
  have hxn:∀ ad,DRel (G.xset tk (v+1) bk) w' (.x tk (v+1) (.sl e 1 [])) (.slice ad 0 0):=λad=>by
   refine .x _ _ _ _ ⟨v+1,bk,0,none⟩ (Qgq t1) rfl (Nat.le_refl _) rfl λ_=>?_
   exact .sl e 1 [] ad 0 (λ_=>rfl) ⟨λx hx=>by simp at hx,Nat.le_refl _,Nat.zero_le _,.inl ⟨rfl,trivial⟩⟩
  cases ret with
  | true=>exact hn _ w' (G.xset tk (v+1) bk) _ ⟨σ.env,⟨σ.s.heap,σ.s.live.set tk (v+1)⟩⟩ s2 ⟨i2,hR.env.mono s2,hR.size⟩ (hxn ad) hK
  | false =>
   obtain⟨hg,hK⟩:=hK;have hrel:=Qtl hR s2 (live' := σ.s.live.set tk (v+1)) i2 rfl (λb' hb' => hb.block b' (Qd5 hR.inv b' hb')) hg (d1 :=.x tk (v+1) (.sl e 1 [])) (λu hu=>by
    obtain⟨T2,x1,x0,x2,hX2⟩:=Qli hR.inv hu hl;rw[t1] at x1;obtain rfl:=Option.some.inj x1;cases hX2 with
    | sl _ _ _ ad2 cap2 hna2 hrow2 =>
     obtain⟨v1,v2,v3,v4⟩:=hrow2;rcases v4 with ⟨rfl,v5⟩ | ⟨b2,us2,rfl,v5,v6,v7,v8,v9⟩
     .exact⟨hxn ad2,rfl⟩
     .have hbk:=hbk2 b2 v5 v6;subst hbk;refine⟨.x _ _ _ _ ⟨v+1,some b2,0,none⟩ (Qgq t1) rfl (Nat.le_refl _) rfl λ_=>?_,rfl⟩;exact .sl e 1 [] (some ⟨b2,0,none⟩) cap2 (λh=>by cases h) ⟨λx hx=>by simp at hx,Nat.zero_le _,v3,.inr ⟨b2,us2,rfl,rfl,rfl,(hb.block b2 (Array.getElem?_eq_some_iff.1 v7).1).trans v7,v8,λi k x c hx _=>by simp at hx⟩⟩)
   exact hn _ w' (G.xset tk (v+1) bk) _ _ s2 hrel (.tup [] #[] rfl λj c u hc=>by simp at hc) hK
 .have hbl:b<w.heap.size:=(Array.getElem?_eq_some_iff.1 r7).1;have hcap:us.size=cap:=by rw[r8]; omega
  have hSR:SRow w b e us ss:=⟨r7,by simp at r2; omega,λi s hs=>by
   obtain⟨u,q1,q2,q3⟩:=r9 i 0 [.v (Qd1 s)] (.v (Qd1 s)) (by simp[hs]) rfl;cases q3;simpa using q1⟩
  by_cases h0:cap=0
  ·
   subst h0;have hss:ss=[]:=List.eq_nil_of_length_eq_zero (by simpa using r2);subst hss;have hss' : ss' = []:=List.eq_nil_of_length_eq_zero (by simpa using hle);subst hss';refine(hc0 rfl).mono λen w' ⟨he,hb⟩=>?_
   subst he;obtain⟨s2,i2⟩:=Qje hR.inv (w' := w') t1 t0 (v:=v+1) (by omega) (bk:=some b) hb.os hb.tape hb.output hb.size (λk hk hne=>hb.block k hk)
    (λg hg=>by cases hg; exact⟨Nat.lt_of_lt_of_le hbl hb.size,.inr ⟨r5,r6⟩⟩) (λk sh hk=>by rw[Qjd (hb.block k (Qn1 hk))]; exact hk)
   have hxn:∀ ad cap2,cap2<=maxLen->(cap2=0\/∃ us2:Array Value,ad=some ⟨b,0,none⟩/\w.heap[b]? = some (.cells us2 e (0,0))/\us2.size=cap2*1)->(ad=none->cap2=0)->DRel (G.xset tk (v+1) (some b)) w' (.x tk (v+1) (.sl e 1 [])) (.slice ad 0 cap2):=λad cap2 hcm h h2=>by
    refine .x _ _ _ _ ⟨v+1,some b,0,none⟩ (Qgq t1) rfl (Nat.le_refl _) rfl λ_=>?_
    refine .sl e 1 [] ad cap2 h2 ⟨λx hx=>by simp at hx,Nat.zero_le _,hcm,?_⟩;rcases h with rfl | ⟨us2,rfl,g1,g2⟩
    .exact .inl ⟨rfl,trivial⟩
    .exact .inr ⟨b,us2,rfl,rfl,rfl,(hb.block b hbl).trans g1,g2,λi k x c hx _=>by simp at hx⟩
   cases ret with
   | true=>exact hn _ w' (G.xset tk (v+1) (some b)) _ ⟨σ.env,⟨σ.s.heap,σ.s.live.set tk (v+1)⟩⟩ s2 ⟨i2,hR.env.mono s2,hR.size⟩ (hxn _ 0 (Nat.zero_le _) (.inl rfl) (λh=>by cases h)) hK
   | false =>
    obtain⟨hg,hK⟩:=hK;have hrel:=Qtl hR s2 (live' := σ.s.live.set tk (v+1)) i2 rfl (λb' hb' => hb.block b' (Qd5 hR.inv b' hb')) hg (d1 :=.x tk (v+1) (.sl e 1 [])) (λu hu=>by
     obtain⟨T2,x1,x0,x2,hX2⟩:=Qli hR.inv hu hl;rw[t1] at x1;obtain rfl:=Option.some.inj x1;cases hX2 with
     | sl _ _ _ ad2 cap2 hna2 hrow2 =>
      obtain⟨v1,v2,v3,v4⟩:=hrow2;rcases v4 with ⟨rfl,v5⟩ | ⟨b2,us2,rfl,v5,v6,v7,v8,v9⟩
      .exact⟨hxn ad2 0 (Nat.zero_le _) (.inl rfl) hna2,rfl⟩
      .rw[r5] at v5;cases v5;exact⟨hxn _ cap2 v3 (.inr ⟨us2,rfl,v7,v8⟩) (λh=>by cases h),rfl⟩)
    exact hn _ w' (G.xset tk (v+1) (some b)) _ _ s2 hrel (.tup [] #[] rfl λj c u hc=>by simp at hc) hK
  .refine(hc1 b us e rfl hcap (by omega) hSR).mono λen w' ⟨he,hb⟩=>?_
   subst he;obtain⟨us', hS', hz'⟩:=hb.new;have hshp:ShKept w w' := λk sh hk=>by
    by_cases hkb:k=b
    .subst hkb;rw[Ql2 r7] at hk;rw[Ql2 hS'.row,hz', <-hcap]; exact hk
    .rw[Qjd (hb.old k (Qn1 hk) hkb)]; exact hk
   have hbn:b ∉ G.name:=(hR.inv.tok tk T1 b t1 (.inl r5)).2.1;obtain⟨s2,i2⟩:=Qje hR.inv (w' := w') t1 t0 (v:=v+1) (by omega) (bk:=some b) hb.os hb.tape hb.output hb.size (λk hk hne=>hb.old k hk λe=>hne (by rw[e]))
    (λg hg=>by cases hg; exact⟨Nat.lt_of_lt_of_le hbl hb.size,.inr ⟨r5,r6⟩⟩) hshp
   have hnewrow:XRow (G.xset tk (v+1) (some b)).com w' ⟨v+1,some b,0,none⟩ (some ⟨b,0,none⟩) cap e 1 (ss'.map λs=>[.v (Qd1 s)]):=by
    refine⟨λx hx=>?_,by rw[List.length_map]; have:=hS'.len; omega,r3,.inr ⟨b,us', rfl,rfl,rfl,hS'.row,by omega,λi k x c hx hc=>?_⟩⟩
    .obtain⟨s,-,rfl⟩:=List.mem_map.1 hx; rfl
    .rw[List.getElem?_map] at hx;obtain⟨s,h1,rfl⟩:=Option.map_eq_some_iff.1 hx;cases k with
     | succ k=>simp at hc
     | zero =>
      cases hc;exact⟨Qd1 s,by simpa using hS'.cell i s h1,rfl,.v _ rfl⟩
   cases ret with
   | true =>
    have hd:DRel (G.xset tk (v+1) (some b)) w' (.x tk (v+1) (.sl e 1 (ss'.map λs=>[.v (Qd1 s)]))) (.slice (some ⟨b,0,none⟩) ss'.length cap):=by
     refine .x _ _ _ _ ⟨v+1,some b,0,none⟩ (Qgq t1) rfl (Nat.le_refl _) rfl λ_=>?_
     have:=XRel.sl e 1 (ss'.map λs=>[V.v (Qd1 s)]) (some ⟨b,0,none⟩) cap (λh=>by cases h) hnewrow
     rwa [List.length_map] at this
    exact hn _ w' (G.xset tk (v+1) (some b)) _ ⟨σ.env,⟨σ.s.heap,σ.s.live.set tk (v+1)⟩⟩ s2 ⟨i2,hR.env.mono s2,hR.size⟩ hd hK
   | false =>
    obtain⟨hg,hK⟩:=hK;have hlen:=hleq rfl;have hrel:=Qtl hR s2 (live' := σ.s.live.set tk (v+1)) i2 rfl (λb' hb' => hb.old b' (Qd5 hR.inv b' hb') λe=>hbn (e ▸ hb')) hg (d1 :=.x tk (v+1) (.sl e 1 (ss'.map λs=>[.v (Qd1 s)]))) (λu hu=>by
     obtain⟨T2,x1,x0,x2,hX2⟩:=Qli hR.inv hu hl;rw[t1] at x1;obtain rfl:=Option.some.inj x1;refine⟨.x _ _ _ _ ⟨v+1,some b,0,none⟩ (Qgq t1) rfl (Nat.le_refl _) hX2.one λ_=>?_,hX2.one⟩;cases hX2 with
     | sl _ _ _ ad2 cap2 hna2 hrow2 =>
      obtain⟨v1,v2,v3,v4⟩:=hrow2;rw[List.length_map,<-hlen] at *;have hgoal:∀ q,XRow (G.xset tk (v+1) (some b)).com w' ⟨v+1,some b,0,none⟩ ad2 cap2 e 1 (ss'.map λs=>[V.v (Qd1 s)])->q=ss'.length->XRel (G.xset tk (v+1) (some b)).com w' ⟨v+1,some b,0,none⟩ (.sl e 1 (ss'.map λs=>[V.v (Qd1 s)])) (.slice ad2 q cap2):=λq h hq=>by
       have:=XRel.sl e 1 (ss'.map λs=>[V.v (Qd1 s)]) ad2 cap2 hna2 h;rw[List.length_map] at this;rw[hq]; exact this
      refine hgoal _ ?_ rfl;rcases v4 with ⟨rfl,v5⟩ | ⟨b2,us2,rfl,v5,v6,v7,v8,v9⟩
      .have hz:ss' = []:=List.eq_nil_of_length_eq_zero (by omega);subst hz;exact⟨λx hx=>by simp at hx,Nat.le_refl _,Nat.zero_le _,.inl ⟨rfl,trivial⟩⟩
      .rw[r5] at v5;cases v5;rw[r7] at v7;cases v7;have:cap2=cap:=by omega
       subst this;exact hnewrow)
    exact hn _ w' (G.xset tk (v+1) (some b)) _ _ s2 hrel (.tup [] #[] rfl λj c u hc=>by simp at hc) hK
def Qaix(P:Program)(o:Op)(σ : St)(K:D->St->Prop):Prop :=
 match Qbk o with
 | some c=>match c.callee with
  | .value f=>match ev σ.env f,evs (ev σ.env) c.args.toList with
   | some (.fn (.func g) first cap),some ds=>∃ r s', CallOK P g (first++ds++cap) σ.s r s' /\ K r ⟨σ.env,s'⟩
   | _,_=>False
  | _=>False
 | none=>False
theorem Q81{rd:Option Nat}{N:Nat}{G:Gh}{σ : St}{a:Act}{w:World}(hR:Rel N G σ a w){o:Oper}{K:D->St->Prop}(h:Qaix P o.op σ K)
  {next:Act->World->Prop} {Q:Exit->Act->World->Prop} (hn:∀ u w' G' d σ', Stp G w G' w' -> Rel N G' σ' a w' -> DRel G' w' d u->K d σ' -> next (a.put o.dst u) w'):o.wpIn (FW rd) 0 P a w next Q:=by
 have hev:=Qrz hR.env;unfold Qaix at h;split at h
 rotate_left
 .exact h.elim
 rename_i c hic;have hoc:o.op = .call c:=by
  cases hop:o.op with
  | call c' =>
   rw[hop] at hic;simp only[Qbk] at hic;split at hic
   .cases hic; rfl
   .cases hic
  | _=>rw[hop] at hic; cases hic
 split at h
 rotate_left
 .exact h.elim
 rename_i f hc;split at h
 rotate_left
 .exact h.elim
 rename_i g first cap ds hf hds
 obtain⟨r,s', hcall,hK⟩:=h;have hfv:∃ us vs,a.eval f = .func (.func g) us vs/\us.size=first.length/\vs.size=cap.length/\(∀ (j:Nat) c u,first[j]? = some c->us[j]? = some u->DRel G w c u)/\(∀ (j:Nat) c u,cap[j]? = some c->vs[j]? = some u->DRel G w c u):=by
  have:=hev f _ hf;generalize a.eval f=q at this;cases this with
  | fn _ _ _ us vs h1 h2 h3 h4=>exact⟨us,vs,rfl,h1.symm,h2.symm,h3,h4⟩
 obtain⟨us,vs,hfv,l1,l2,k1,k2⟩:=hfv;obtain⟨e1,e2⟩:=Qgi hev _ _ hds;have hrun:(execOp a.eval o).run P w = .ok (.enter g (us++c.args.map a.eval++vs)) w:=by
  unfold execOp;simp only[hoc];simp[resolve,hc,hfv,Deferred.ofValue,invoke,Qpw hcall.fn]
 refine Qlf (by rw[hoc]; intro c; simp) ?_;rw[hrun,Oper.uponIn_enter];refine⟨FW_n _,Qtg ?_⟩;refine(hcall.out G w (us++c.args.map a.eval++vs) hR.inv (by simp[l1,l2,e1]) (λj d0 u hd0 hu=>?_)).mono λen w' ⟨u,G', he,h1,h2,h3⟩=>?_
 .have hsz:(c.args.map a.eval).size=ds.length:=by simp[e1]
  by_cases hj:j<first.length+ds.length
  .rw[List.getElem?_append_left (by simpa using hj)] at hd0;rw[Array.getElem?_append_left (by simp[l1]; simp at hsz; omega)] at hu;by_cases hj2:j<first.length
   .rw[List.getElem?_append_left hj2] at hd0;rw[Array.getElem?_append_left (by omega)] at hu;exact k1 j d0 u hd0 hu
   .rw[List.getElem?_append_right (by omega)] at hd0;rw[Array.getElem?_append_right (by omega),l1] at hu;exact e2 _ d0 u hd0 (by simpa using hu)
  .rw[List.getElem?_append_right (by simp; omega)] at hd0;rw[Array.getElem?_append_right (by simp[l1]; simp at hsz; omega)] at hu;simp only[List.length_append] at hd0;simp only[Array.size_append,l1,hsz] at hu;exact k2 _ d0 u hd0 hu
 .subst he;exact hn u w' G' r ⟨σ.env,s'⟩ h1 ⟨h2,hR.env.mono h1,hR.size⟩ h3 hK
def gOne(P:Program)(N:Nat)(ops:List Oper)(i:Nat)(hm:Home)(σ : St)(K:St->Prop):Prop :=
 match ops[i]? with
 | none=>False
 | some o=>match Qzz ops σ.env o.guard with
  | some true=>(Qaiw P hm o.op σ λd σ' => putE N σ'.env o.dst d λenv' => K ⟨env', σ'.s⟩)\/(Qaix P o.op σ λd σ' => putE N σ'.env o.dst d λenv' => K ⟨env', σ'.s⟩)
  | some false=>putE N σ.env o.dst .undef λenv' => K ⟨env', σ.s⟩
  | none=>False
theorem Q1w{rd:Option Nat}{N:Nat}{G:Gh}{σ : St}{a:Act}{w:World}(hR:Rel N G σ a w){ops:List Oper}{i:Nat}{hm:Home}{K:St->Prop}(h:gOne P N ops i hm σ K)
  {next:Act->World->Prop} {Q:Exit->Act->World->Prop} (hn:∀ a' w' G' σ', Stp G w G' w' -> Rel N G' σ' a' w' -> a'.defers=a.defers->K σ' -> next a' w'):wpOpIn (FW rd) 0 P ops.toArray Q i next a w:=by
 unfold gOne at h;unfold wpOpIn;split at h
 .exact h.elim
 .rename_i o ho;simp only[List.getElem?_toArray,ho];split at h
  .rename_i hw;rw[if_pos (Qjl hR ops o true hw)];rcases h with h | h
   .exact Q80 hR h λu w' G' d σ' s1 r1 hd h1=>by
     obtain⟨env', q1,q2⟩:=Qky r1 (.refl G' w') r1.inv hd h1;exact hn _ _ _ _ s1 q1 (Qct _ _ _) q2
   .exact Q81 hR h λu w' G' d σ' s1 r1 hd h1=>by
     obtain⟨env', q1,q2⟩:=Qky r1 (.refl G' w') r1.inv hd h1;exact hn _ _ _ _ s1 q1 (Qct _ _ _) q2
  .rename_i hw;rw[if_neg (by rw[Qjl hR ops o false hw]; simp)];refine⟨λf _=>Q50 _ _,?_⟩;obtain⟨env', q1,q2⟩:=Qky hR (.refl G w) hR.inv .undef h;exact hn _ _ _ _ (.refl G w) q1 (Qct _ _ _) q2
  .exact h.elim
def Qaec:List Nat->Nat->Option Home
 | k::c::x::y::r,i=>if k=i then some (match c with | 0 =>.no | 1 =>.s x | 2 =>.a x y | _ =>.h x y) else Qaec r i
 | _,_=>none
def xOps(mk:List Nat)(P:Program)(tb:Tbl)(N:Nat)(ops:List Oper):List Nat->St->(St->Prop)->Prop
 | [],σ,K=>K σ
 | i::r,σ,K=>match Qaec mk i with
  | some hm=>(match (ops[i]?).bind λo=>Qbk o.op with
   | some _=>gOne P N ops i hm σ λσ' => xOps mk P tb N ops r σ' K
   | none=>xOne tb N ops i hm σ λσ' => xOps mk P tb N ops r σ' K)
  | none=>bOne true P tb N ops i σ λσ' => xOps mk P tb N ops r σ' K
theorem Qq6(hT:TblOk P tb){rd:Option Nat}{mk:List Nat}{N:Nat}{ops:List Oper}{Q:Exit->Act->World->Prop}{K:St->Prop}{B:Nat×Nat}{G0:Gh}{w0:World}{ds:List Deferred}(hQ:∀ a w G σ,Ex B G0 w0 G w->Rel N G σ a w->a.defers=ds->K σ -> Q .normal a w) :
  ∀ (l:List Nat) (σ : St) (a:Act) (w:World) (G:Gh),Ex B G0 w0 G w->Rel N G σ a w->a.defers=ds->xOps mk P tb N ops l σ K->wpOpsIn (FW rd) 0 P ops.toArray Q l a w
 | [],σ,a,w,G,hE,hR,hd,h=>hQ a w G σ hE hR hd h
 | i::r,σ,a,w,G,hE,hR,hd,h=>by
  rw[wpOpsIn_cons];unfold xOps at h;split at h
  .split at h
   .exact Q1w hR h λa' w' G' σ' s1 r1 d1 h1=>Qq6 hT hQ r σ' a' w' G' (hE.trans (s1.ex B)) r1 (d1.trans hd) h1
   .exact Qq5 hT hR h λa' w' G' σ' s1 r1 d1 h1=>Qq6 hT hQ r σ' a' w' G' (hE.trans (s1.ex B)) r1 (d1.trans hd) h1
  .exact Qhc hT hR h λa' w' G' σ' s1 r1 d1 h1=>Qq6 hT hQ r σ' a' w' G' (hE.trans (s1.ex B)) r1 (d1.trans hd) h1
end
def frz1(t v:Nat):D->D
 | .x t' v' X=>match X with
  | .sl e size es=>if t' = t/\v' = v then .p (.sl false es) else .x t' v' (.sl e size es)
  | X =>.x t' v' X
 | d=>d
def frzD(t v:Nat):D->D
 | .agg ds=>aggD (ds.map (frz1 t v))
 | d=>frz1 t v d
def frzE(t v:Nat):Env->Env
 | []=>[]
 | (s,d)::r=>(s,frzD t v d)::frzE t v r
def frzH(t v:Nat):List (List D)->List (List D)
 | []=>[]
 | cs::r=>cs.map (frz1 t v)::frzH t v r
theorem Q6k(t v:Nat):∀ (env:Env) (s:Nat) (d:D),(frzE t v env).lookup s=some d->∃ d0,env.lookup s=some d0/\d=frzD t v d0
 | [],s,d,h=>by simp[frzE] at h
 | (s0,d0)::r,s,d,h=>by
  unfold frzE at h;rw[List.lookup_cons] at h ⊢;by_cases hs:s=s0
  .subst hs;simp only[beq_self_eq_true,Option.some.injEq] at h ⊢;exact⟨d0,rfl,h.symm⟩
  .have hb:(s==s0)=false:=by simpa using hs
   rw[hb] at h ⊢;exact Q6k t v r s d h
theorem Q26(t v:Nat):∀ (h:List (List D)),frzH t v h=h.map λcs=>cs.map (frz1 t v)
 | []=>rfl
 | cs::r=>by rw[frzH,Q26 t v r]; rfl
theorem Qagx{N:Nat}{G:Gh}{σ : St}{a:Act}{w:World}(hR:Rel N G σ a w){hm:Home}{d:D}(hg:hm.get σ = some d)(hnt:∀ ds,d ≠ .tup ds:=by exact λ_ h=>nomatch h):∃ u,DRel G w d u:=by
 cases hm with
 | no=>cases hg
 | s t=>exact⟨_,(hR.env t d hg).2⟩
 | a t j =>
  dsimp only[Home.get] at hg;split at hg
  .rename_i ds hds;have k2:=(hR.env t _ hds).2;generalize a.tmps.getD t undef=u at k2;cases k2 with
   | agg _ us l1 l2 l3 =>
    have hlt:j<us.size:=by rw[<-l1]; exact(List.getElem?_eq_some_iff.1 hg).1
    exact⟨_,l3 j d us[j] hg (Array.getElem?_eq_getElem hlt)⟩
  .cases hg
 | h nm off =>
  dsimp only[Home.get] at hg;split at hg
  .rename_i cs hcs;have hlt:nm<G.name.length:=by rw[hR.inv.names]; exact(List.getElem?_eq_some_iff.1 hcs).1
   obtain⟨us,ty,h1,h2,h3⟩:=(hR.inv.var nm _ cs (List.getElem?_eq_getElem hlt) hcs).at hg hnt;have hlt2:off<us.size:=by rw[h2]; exact(List.getElem?_eq_some_iff.1 hg).1
   exact⟨_,(h3 off d us[off] hg (Array.getElem?_eq_getElem hlt2)).2⟩
  .cases hg
theorem Qaaz{N:Nat}{G:Gh}{σ : St}{a:Act}{w:World}(hR:Rel N G σ a w){hm:Home}{t v:Nat}{X:XD}(hg:hm.get σ = some (.x t v X))(hl : σ.s.live[t]? = some v):∃ T1,G.tok[t]? = some T1/\T1.pro=none/\T1.len=v:=by
 obtain⟨u,hu⟩:=Qagx hR hg;obtain⟨T1,h1,h2,h3,-⟩:=Qli hR.inv hu hl;exact⟨T1,h1,h2,h3⟩
theorem Qagy{B:Nat×Nat}{N:Nat}{env:Env}{s:S}(hm:Home)(t v:Nat){X:XD}(h:s.live[t]? = some v)(hg:hm.get ⟨env,s⟩=some (.x t v X)){G:Gh}{a:Act}{w:World}(hR:Rel N G ⟨env,s⟩ a w) :
  ∃ G', Ex B G w G' w/\Rel N G' ⟨frzE t v env,⟨frzH t v s.heap,s.live.set t (v+1)⟩⟩ a w/\G'.tok[t]? = some ⟨v+1,none,0,none⟩:=by
 obtain⟨T1,t1,hp,t2⟩:=Qaaz hR hg h;have hI:=hR.inv;have hlt:t<G.tok.length:=(List.getElem?_eq_some_iff.1 t1).1;have hTm:T1 ∈ G.tok:=List.mem_of_getElem? t1;obtain⟨C,hC⟩:∃ C:Nat->Nat->Prop,∀ b o,C b o↔G.com b o\/(T1.blk=some b/\T1.cells=0):=⟨_,λ_ _=>Iff.rfl⟩;have hst:Stp G w ⟨C,G.name,G.tok.set t ⟨v+1,none,0,none⟩⟩ w:=by
  refine⟨⟨rfl,rfl,rfl,Nat.le_refl _,λb o u h hu=>⟨(hC b o).2 (.inl h),hu⟩,λ_ _ _ _=>rfl,λb o h=>?_,λb h=>?_,λb o h=>(hC b o).2 (.inl h),.refl w⟩,λnm b h=>h,λt' T' h9=>?_⟩
  .rcases (hC b o).1 h with h | ⟨h,-⟩
   .exact .inl h
   .exact .inr (.inr (.inr ⟨T1,hTm,.inl h⟩))
  .rcases h with h | ⟨T', hT', hb⟩
   .exact .inr (.inl h)
   .rcases List.mem_or_eq_of_mem_set hT' with h | h
    .exact .inr (.inr ⟨T', h,hb⟩)
    .subst h; exact nomatch (Tok.has_row.1 hb)
  .by_cases htt:t' = t
   .subst htt;rw[t1] at h9;obtain rfl:=Option.some.inj h9;exact⟨⟨v+1,none,0,none⟩,List.getElem?_set_self hlt,⟨by simp only; omega,by simp[hp]⟩,λe=>by simp only at e; omega⟩
   .exact⟨T', by rw[List.getElem?_set_ne (λe=>htt e.symm)]; exact h9,.refl T', λ_=>⟨rfl,λ_ _=>rfl⟩⟩
 have f1:∀ {d:D} {u:Value},DRel G w d u->DRel ⟨C,G.name,G.tok.set t ⟨v+1,none,0,none⟩⟩ w (frz1 t v d) u:=λ{d} {u} hd=>by
  have hk:=hd.mono hst;unfold frz1;split
  .rename_i t' v' X';split
   .rename_i e size es;split
    .rename_i htv;obtain⟨rfl,rfl⟩:=htv;obtain⟨T2,x1,x0,x2,hX⟩:=Qli hI hd h;rw[t1] at x1;obtain rfl:=Option.some.inj x1;cases hX with
     | sl _ _ _ ad cap hna hrow =>
      obtain⟨w1,w2,w3,w4⟩:=hrow;rcases w4 with ⟨w4,w5⟩ | ⟨b,us,rfl,w5,w6,w7,w8,w9⟩
      .have h0:es=[]:=List.eq_nil_of_length_eq_zero (by omega);subst h0;exact .p _ _ (.sl false [] ad cap 0 0 0 (λ_=>undef) w2 w3 (λh=>by cases h) (λe he=>by simp at he) hna (λi k e c he=>by simp at he) (λi k e c he=>by simp at he) (λh=>by cases h))
      .refine .p _ _ (Qq2 b us e (0,0) w7 es size cap (λo _=>(hC b o).2 (.inr ⟨w5,w6⟩)) false w2 w3 (λh=>by cases h) w1 λi k x c hx hc=>?_);obtain⟨u,p1,p2,p3⟩:=w9 i k x c hx hc;exact⟨u,p1,p2,p3.mono (Nat.le_refl _) λb o u h1 h2=>⟨(hC b o).2 (.inl h1),h2⟩⟩
    .exact hk
   .exact hk
  .exact hk
 have mem' : ∀ T' ∈ G.tok.set t ⟨v+1,none,0,none⟩,(∃ i,i≠t/\G.tok[i]? = some T')\/T' = ⟨v+1,none,0,none⟩:=λT' hT' => by
  obtain⟨i,hi⟩:=List.getElem?_of_mem hT';by_cases hit:t=i
  .subst hit;rw[List.getElem?_set_self hlt] at hi;exact .inr (Option.some.inj hi).symm
  .rw[List.getElem?_set_ne hit] at hi;exact .inl ⟨i,λe=>hit e.symm,hi⟩
 have get' : ∀ (i:Nat) T' b,(G.tok.set t ⟨v+1,none,0,none⟩)[i]? = some T' -> T'.has b->i≠t/\G.tok[i]? = some T' := λi T' b hi hb=>by
  by_cases hit:t=i
  .subst hit;rw[List.getElem?_set_self hlt] at hi;obtain rfl:=Option.some.inj hi;exact nomatch (Tok.has_row.1 hb)
  .rw[List.getElem?_set_ne hit] at hi;exact⟨λe=>hit e.symm,hi⟩
 refine⟨⟨C,G.name,G.tok.set t ⟨v+1,none,0,none⟩⟩,hst.ex B,⟨⟨λb o hc=>?_,?_,hI.nodup,λi b cs hb hcs=>?_,?_,λt' T' b ht hb=>?_,λT' hT' => ?_,hI.glob.mono hst.ext.com⟩,λs d hd=>?_,hR.size⟩,List.getElem?_set_self hlt⟩
 .rcases (hC b o).1 hc with hc | ⟨hc,h0⟩
  .obtain⟨g1,g2,g3⟩:=hI.com b o hc;refine⟨g1,g2,λT' hT' => ?_⟩;rcases mem' T' hT' with ⟨i,-,hi⟩ | rfl
   .exact g3 T' (List.mem_of_getElem? hi)
   .exact Tok.may_row.2 λh=>by cases h
  .obtain⟨g1,g2,g3⟩:=hI.tok t T1 b t1 (.inl hc);refine⟨g1,g2,λT' hT' => ?_⟩;rcases mem' T' hT' with ⟨i,hit,hi⟩ | rfl
   .exact⟨λhb=>absurd (g3 i T' hi (.inl hb)) hit,λhb=>absurd (g3 i T' hi (.inr hb)) hit⟩
   .exact Tok.may_row.2 λh=>by cases h
 .show G.name.length=(frzH t v s.heap).length;rw[Q26,List.length_map]; exact hI.names
 .have hcs:(frzH t v s.heap)[i]? = some cs:=hcs;rw[Q26,List.getElem?_map] at hcs;obtain⟨cs0,h0,rfl⟩:=Option.map_eq_some_iff.1 hcs;cases hI.var i b cs0 hb h0 with
  | map fl ms es clock h1 h2 h3=>exact .map fl ms es clock (by rw[h1]; rfl) h2 (h3.mono (Nat.le_refl _) λb o _ h1 h2=>⟨(hC b o).2 (.inl h1),h2⟩)
  | cells us ty h1 h2 h3 =>
  refine .cells us ty h1 (by simpa using h2) λj c u hc hu=>?_
  rw[List.getElem?_map] at hc;obtain⟨c0,hc0,rfl⟩:=Option.map_eq_some_iff.1 hc;exact⟨(h3 j c0 u hc0 hu).1,f1 (h3 j c0 u hc0 hu).2⟩
 .show(G.tok.set t _).map (·.len)=s.live.set t (v+1);rw[List.map_set,hI.live]
 .obtain⟨hne,ht⟩:=get' t' T' b ht hb;obtain⟨g1,g2,g3⟩:=hI.tok t' T' b ht hb;exact⟨g1,g2,λt'' T'' ht'' hb'' => g3 t'' T'' (get' t'' T'' b ht'' hb'').2 hb''⟩
 .rcases mem' T' hT' with ⟨i,hit,hi⟩ | rfl
  .have hm:=List.mem_of_getElem? hi;exact⟨(hI.pro T' hm).1,λb o hr=>(hC b o).2 (.inl ((hI.pro T' hm).2 b o hr))⟩
  .exact⟨λq hq=>(nomatch hq),λb o ⟨q,hq,_⟩=>(nomatch hq)⟩
 .obtain⟨d0,h1,rfl⟩:=Q6k t v env s d hd;obtain⟨k1,k2⟩:=hR.env s d0 h1;refine⟨k1,?_⟩;unfold frzD;split
  .rename_i ds;generalize a.tmps.getD s undef=u at k2;cases k2 with
   | agg _ us l1 l2 l3 =>
    refine CellsRel.agg ⟨by rw[List.length_map]; exact l1.symm,λj c u hc hu=>?_⟩;rw[List.getElem?_map] at hc;obtain⟨c0,hc0,rfl⟩:=Option.map_eq_some_iff.1 hc;exact⟨l2 j c0 u hc0 hu,f1 (l3 j c0 u hc0 hu)⟩
  .exact f1 k2
def ver1(t v v' : Nat):D->D
 | .x t' w X=>if t' = t/\w=v then .x t' v' X else .x t' w X
 | d=>d
def verD(t v v' : Nat):D->D
 | .agg ds =>.agg (ds.map (ver1 t v v'))
 | d=>ver1 t v v' d
def noT1(t:Nat):D->Bool
 | .p _ | .ptr _ _ | .sp _ _ _ _ _ | .mh _ | .undef=>true
 | .own t' _ _ _=>t' != t
 | .yld _ t' _=>t' != t
 | .x t' _ _=>t' != t
 | .fn _ _ _ | .agg _ | .tup _ | .sf _ | .ef _=>false
def okT1(t v:Nat):D->Bool
 | .x t' w _=>t' != t||w==v
 | .fn _ x y=>x.all (noT1 t)&&y.all (noT1 t)
 | .tup [.p _]=>true
 | d=>noT1 t d
def okT(t v:Nat):D->Bool
 | .agg ds=>ds.all (okT1 t v)
 | .tup ds=>ds.all (noT1 t)
 | .fn _ x y=>x.all (noT1 t)&&y.all (noT1 t)
 | .sf _ | .ef _=>false
 | d=>okT1 t v d
def verE(t v v' : Nat):Env->Env
 | []=>[]
 | (s,d)::r=>(s,verD t v v' d)::verE t v v' r
def verH(t v v' : Nat):List (List D)->List (List D)
 | []=>[]
 | cs::r=>cs.map (ver1 t v v')::verH t v v' r
theorem Q6l(t v v' : Nat):∀ (env:Env) (s:Nat) (d:D),(verE t v v' env).lookup s=some d->∃ d0,(s,d0) ∈ env/\env.lookup s=some d0/\d=verD t v v' d0
 | [],s,d,h=>by simp[verE] at h
 | (s0,d0)::r,s,d,h=>by
  unfold verE at h;rw[List.lookup_cons] at h ⊢;by_cases hs:s=s0
  .subst hs;simp only[beq_self_eq_true,Option.some.injEq] at h ⊢;exact⟨d0,by simp,rfl,h.symm⟩
  .have hb:(s==s0)=false:=by simpa using hs
   rw[hb] at h ⊢;obtain⟨d1,h1,h2,h3⟩:=Q6l t v v' r s d h;exact⟨d1,by simp[h1],h2,h3⟩
theorem Qwz(t v v' : Nat):∀ (h:List (List D)),verH t v v' h=h.map λcs=>cs.map (ver1 t v v')
 | []=>rfl
 | cs::r=>by rw[verH,Qwz t v v' r]; rfl
theorem Qaa0{B:Nat×Nat}{N:Nat}{env:Env}{s:S}(t v v' : Nat)(h:s.live[t]? = some v)(hE:env.all (λp=>okT t v p.2)=true)(hH:s.heap.all (λcs=>cs.all (okT1 t v))=true)
  (hB:B.2<=t) {G:Gh} {a:Act} {w:World} (hR:Rel N G ⟨env,s⟩ a w) {T1:Tok} (t1:G.tok[t]? = some T1) (hp:T1.pro=none):∃ G', Ex B G w G' w/\Rel N G' ⟨verE t v v' env,⟨verH t v v' s.heap,s.live.set t v'⟩⟩ a w:=by
 have hI:=hR.inv;have hlt:t<G.tok.length:=(List.getElem?_eq_some_iff.1 t1).1;have hTm:T1 ∈ G.tok:=List.mem_of_getElem? t1;have hne:∀ t', t' ≠ t->(G.tok.set t ⟨v', T1.blk,T1.cells,none⟩)[t']? = G.tok[t']? := λt' h=>List.getElem?_set_ne (λe=>h e.symm)
 have hT' : (G.tok.set t ⟨v', T1.blk,T1.cells,none⟩)[t]? = some ⟨v', T1.blk,T1.cells,none⟩:=List.getElem?_set_self hlt;have has' : ∀ b,(Tok.mk v' T1.blk T1.cells none).has b↔T1.has b:=λb=>by rw[Tok.has_row,Tok.has_blk hp]
 have n1:∀ {d:D} {u:Value},noT1 t d=true->DRel G w d u->DRel ⟨G.com,G.name,G.tok.set t ⟨v', T1.blk,T1.cells,none⟩⟩ w d u:=λ{d} {u} ho hd=>by
  cases hd with
  | p x u h=>exact .p x u h
  | ptr nm off b h=>exact .ptr nm off b h
  | own t' e size es u T h1 h2 h3 h0 h4 h5 =>
   have hx:t' ≠ t:=by simpa [noT1] using ho
   refine .own t' e size es u T h1 h2 (by rw[hne t' hx]; exact h3) h0 h4 λhe=>?_
   obtain⟨a,cap,rfl,h6⟩:=h5 he;refine⟨a,cap,rfl,h6.imp id (Or.imp_left ?_)⟩;rintro ⟨b,us,T2,ha,g1,g⟩;exact⟨b,us,T2,ha,by rw[hne t' hx]; exact g1,g⟩
  | yld t' T p h1 h2 =>
   have hx:t' ≠ t:=by simpa [noT1] using ho
   exact .yld t' T p (by rw[hne t' hx]; exact h1) h2
  | sp P u b nm off i e n v h1 h2 h3 h4 h5 h6=>exact .sp P u b nm off i e n _ h1 h2 h3 h4 h5 h6
  | x t' v X u T h1 h0 h2 h3 h4 =>
   have hx:t' ≠ t:=by simpa [noT1] using ho
   exact .x t' v X u T (by rw[hne t' hx]; exact h1) h0 h2 h3 h4
  | mh nm b h=>exact .mh nm b h
  | undef=>exact .undef
  | _=>cases ho
 have f1:∀ {d:D} {u:Value},okT1 t v d=true->DRel G w d u->DRel ⟨G.com,G.name,G.tok.set t ⟨v', T1.blk,T1.cells,none⟩⟩ w (ver1 t v v' d) u:=λ{d} {u} ho hd=>by
  cases d with
  | x t' w' X =>
   show DRel _ w (if t' = t/\w' = v then .x t' v' X else .x t' w' X) u;split
   .rename_i htv;obtain⟨rfl,rfl⟩:=htv;obtain⟨T2,x1,x0,x2,hX⟩:=Qli hI hd h;rw[t1] at x1;obtain rfl:=Option.some.inj x1;refine .x _ _ _ _ ⟨v', T1.blk,T1.cells,none⟩ hT' rfl (Nat.le_refl _) hX.one λ_=>?_
    cases hX with
    | sl e size es a cap h1 h2=>exact .sl e size es a cap h1 h2
    | el e size es i c off b cap h1 h2=>exact .el e size es i c off b cap h1 h2
   .rename_i htv;refine n1 ?_ hd;simp only[okT1,Bool.or_eq_true,bne_iff_ne,ne_eq,beq_iff_eq] at ho;simp only[noT1,bne_iff_ne,ne_eq];intro e;rcases ho with ho | ho
    .exact ho e
    .exact htv ⟨e,ho⟩
  | p x=>exact n1 (d :=.p x) ho hd
  | ptr a b=>exact n1 (d :=.ptr a b) ho hd
  | own a b c e=>exact n1 (d :=.own a b c e) ho hd
  | fn f a b =>
   simp only[okT1,Bool.and_eq_true,List.all_eq_true] at ho;cases hd with
   | fn _ _ _ us vs l1 l2 l3 l4=>exact .fn f a b us vs l1 l2 (λj c u hc hu=>n1 (ho.1 c (List.mem_of_getElem? hc)) (l3 j c u hc hu)) (λj c u hc hu=>n1 (ho.2 c (List.mem_of_getElem? hc)) (l4 j c u hc hu))
  | yld P a b=>exact n1 (d :=.yld P a b) ho hd
  | sp P a b c e=>exact n1 (d :=.sp P a b c e) ho hd
  | agg a=>exact n1 (d :=.agg a) ho hd
  | tup a =>
   match a,ho,hd with
   | [.p x],_,hd =>
    cases hd with
    | tup _ us l1 l3 =>
     refine .tup _ us l1 λj c u hc hu=>n1 ?_ (l3 j c u hc hu)
     rw[List.mem_singleton.1 (List.mem_of_getElem? hc)]; rfl
  | mh nm=>exact n1 (d :=.mh nm) ho hd
  | sf a=>exact n1 (d :=.sf a) ho hd
  | ef a=>exact n1 (d :=.ef a) ho hd
  | undef=>exact n1 (d :=.undef) ho hd
 have get' : ∀ (i:Nat) T', (G.tok.set t ⟨v', T1.blk,T1.cells,none⟩)[i]? = some T' -> (i≠t/\G.tok[i]? = some T')\/(i=t/\T' = ⟨v', T1.blk,T1.cells,none⟩):=λi T' hi=>by
  by_cases hit:i=t
  .subst hit;rw[hT'] at hi;exact .inr ⟨rfl,(Option.some.inj hi).symm⟩
  .rw[hne i hit] at hi;exact .inl ⟨hit,hi⟩
 have hasG:∀ (i:Nat) T' b,(G.tok.set t ⟨v', T1.blk,T1.cells,none⟩)[i]? = some T' -> T'.has b->∃ T2,G.tok[i]? = some T2/\T2.has b:=λi T' b hi hb=>by
  rcases get' i T' hi with ⟨-,h⟩ | ⟨rfl,rfl⟩
  .exact⟨T', h,hb⟩
  .exact⟨T1,t1,(has' b).1 hb⟩
 have hex:Ex B G w ⟨G.com,G.name,G.tok.set t ⟨v', T1.blk,T1.cells,none⟩⟩ w:=by
  refine⟨⟨rfl,rfl,rfl,Nat.le_refl _,λb o u h hu=>⟨h,hu⟩,λ_ _ _ _=>rfl,λb o h =>.inl h,λb h=>?_,λb o h=>h,.refl w⟩,λnm b _ h=>h,λt' T' hl h=>?_⟩
  .rcases h with h | ⟨T', hT', hb⟩
   .exact .inr (.inl h)
   .obtain⟨i,hi⟩:=List.getElem?_of_mem hT';obtain⟨T2,h1,h2⟩:=hasG i T' b hi hb;exact .inr (.inr ⟨T2,List.mem_of_getElem? h1,h2⟩)
  .exact⟨T', by rw[hne t' (by omega)]; exact h,.refl T', λ_=>⟨rfl,λ_ _=>rfl⟩⟩
 refine⟨⟨G.com,G.name,G.tok.set t ⟨v', T1.blk,T1.cells,none⟩⟩,hex,⟨⟨λb o hc=>?_,?_,hI.nodup,λi b cs hb hcs=>?_,?_,λt' T' b ht hb=>?_,λT' hT' => ?_,hI.glob⟩,λs' d hd=>?_,hR.size⟩⟩
 .obtain⟨g1,g2,g3⟩:=hI.com b o hc;refine⟨g1,g2,λT' hT' => ?_⟩;obtain⟨i,hi⟩:=List.getElem?_of_mem hT';rcases get' i T' hi with ⟨-,h⟩ | ⟨rfl,rfl⟩
  .exact g3 T' (List.mem_of_getElem? h)
  .exact Tok.may_row.2 λh=>(g3 T1 hTm).1 h
 .show G.name.length=(verH t v v' s.heap).length;rw[Qwz,List.length_map]; exact hI.names
 .have hcs:(verH t v v' s.heap)[i]? = some cs:=hcs;rw[Qwz,List.getElem?_map] at hcs;obtain⟨cs0,h0,rfl⟩:=Option.map_eq_some_iff.1 hcs;cases hI.var i b cs0 hb h0 with
  | map fl ms es clock h1 h2 h3=>exact .map fl ms es clock (by rw[h1]; rfl) h2 (h3.mono (Nat.le_refl _) λ_ _ _ h1 h2=>⟨h1,h2⟩)
  | cells us ty h1 h2 h3 =>
  refine .cells us ty h1 (by simpa using h2) λj c u hc hu=>?_
  rw[List.getElem?_map] at hc;obtain⟨c0,hc0,rfl⟩:=Option.map_eq_some_iff.1 hc;rw[List.all_eq_true] at hH;have hH2:=hH cs0 (List.mem_of_getElem? h0);rw[List.all_eq_true] at hH2;exact⟨(h3 j c0 u hc0 hu).1,f1 (hH2 c0 (List.mem_of_getElem? hc0)) (h3 j c0 u hc0 hu).2⟩
 .show(G.tok.set t _).map (·.len)=s.live.set t v';rw[List.map_set,hI.live]
 .obtain⟨T2,g,hb2⟩:=hasG t' T' b ht hb;obtain⟨g1,g2,g3⟩:=hI.tok t' T2 b g hb2;refine⟨g1,g2,λt'' T'' ht'' hb'' => ?_⟩;obtain⟨T3,g', hb3⟩:=hasG t'' T'' b ht'' hb'';exact g3 t'' T3 g' hb3
 .obtain⟨i,hi⟩:=List.getElem?_of_mem hT';rcases get' i T' hi with ⟨-,h⟩ | ⟨rfl,rfl⟩
  .exact hI.pro T' (List.mem_of_getElem? h)
  .exact⟨λq hq=>(nomatch hq),λb o ⟨q,hq,_⟩=>(nomatch hq)⟩
 .obtain⟨d0,hm0,h1,rfl⟩:=Q6l t v v' env s' d hd;obtain⟨k1,k2⟩:=hR.env s' d0 h1;refine⟨k1,?_⟩;rw[List.all_eq_true] at hE;have ho:=hE (s', d0) hm0;simp only at ho;generalize a.tmps.getD s' undef=u at k2;cases k2 with
  | agg ds us l1 l2 l3 =>
   simp only[okT,List.all_eq_true] at ho;refine .agg _ us (by rw[List.length_map]; exact l1) (λj c u hc hu=>?_) (λj c u hc hu=>?_)
   all_goals
    rw[List.getElem?_map] at hc;obtain⟨c0,hc0,rfl⟩:=Option.map_eq_some_iff.1 hc
    first
     | exact l2 j c0 u hc0 hu
     | exact f1 (ho c0 (List.mem_of_getElem? hc0)) (l3 j c0 u hc0 hu)
  | tup ds us l1 l3 =>
   simp only[okT,List.all_eq_true] at ho;exact .tup _ us l1 (λj c u hc hu=>n1 (ho c (List.mem_of_getElem? hc)) (l3 j c u hc hu))
  | fn f x y us vs l1 l2 l3 l4 =>
   simp only[okT,Bool.and_eq_true,List.all_eq_true] at ho;exact .fn f x y us vs l1 l2 (λj c u hc hu=>n1 (ho.1 c (List.mem_of_getElem? hc)) (l3 j c u hc hu)) (λj c u hc hu=>n1 (ho.2 c (List.mem_of_getElem? hc)) (l4 j c u hc hu))
  | sf ds b us=>cases ho
  | ef d b off u=>cases ho
  | p x u h=>exact f1 (d :=.p x) ho (.p x u h)
  | ptr nm off b h=>exact f1 (d :=.ptr nm off) ho (.ptr nm off b h)
  | own t' e size es u T h1 h2 h3 h0 h4 h5=>exact f1 (d :=.own t' e size es) ho (.own t' e size es u T h1 h2 h3 h0 h4 h5)
  | yld t' T p k3 k4=>exact f1 (d :=.yld p.P t' p.xs) ho (.yld t' T p k3 k4)
  | sp P u b nm off i e n v k3 k4 k5 k6 k7 k8=>exact f1 (d :=.sp P u b nm off) ho (.sp P u b nm off i e n _ k3 k4 k5 k6 k7 k8)
  | x t' v X u T k3 k4 k5 k6 k7=>exact f1 (d :=.x t' v X) ho (.x t' v X u T k3 k4 k5 k6 k7)
  | mh nm b h=>exact f1 (d :=.mh nm) ho (.mh nm b h)
  | undef=>exact f1 (d :=.undef) ho .undef
theorem Le.ver{B:Nat×Nat}{N:Nat}{env:Env}{s:S}(hm:Home)(t v v' : Nat){X:XD}(h:s.live[t]? = some v)(hg:hm.get ⟨env,s⟩=some (.x t v X))(hE:env.all (λp=>okT t v p.2)=true)(hH:s.heap.all (λcs=>cs.all (okT1 t v))=true)
  (hB:B.2<=t:=by exact Nat.le_of_ble_eq_true rfl):Le B N ⟨env,s⟩ ⟨verE t v v' env,⟨verH t v v' s.heap,s.live.set t v'⟩⟩:=⟨λG a w hR=>by
 obtain⟨T1,t1,hp,-⟩:=Qaaz hR hg h;exact Qaa0 t v v' h hE hH hB hR t1 hp⟩
theorem Le.frzv{B:Nat×Nat}{N:Nat}{env:Env}{s:S}(hm:Home)(t v:Nat){X:XD}(h:s.live[t]? = some v)(hg:hm.get ⟨env,s⟩=some (.x t v X))(hE:(frzE t v env).all (λp=>okT t (v+1) p.2)=true)(hH:(frzH t v s.heap).all (λcs=>cs.all (okT1 t (v+1)))=true)
  (hB:B.2<=t:=by exact Nat.le_of_ble_eq_true rfl):Le B N ⟨env,s⟩ ⟨verE t (v+1) 1 (frzE t v env),⟨verH t (v+1) 1 (frzH t v s.heap),(s.live.set t (v+1)).set t 1⟩⟩:=⟨λG a w hR=>by
 obtain⟨G1,e1,r1,t1⟩:=Qagy (B:=B) hm t v h hg hR;have hl:(s.live.set t (v+1))[t]? = some (v+1):=List.getElem?_set_self (List.getElem?_eq_some_iff.1 h).1;obtain⟨G2,e2,r2⟩:=Qaa0 (B:=B) t (v+1) 1 hl hE hH hB r1 t1 rfl;exact⟨G2,e1.trans e2,r2⟩⟩
theorem Le.xnil{B:Nat×Nat}{N:Nat}{env:Env}{s:S}(hm:Home)(e size:Nat){es:List (List V)}(hg:hm.get ⟨env,s⟩=some (.p (.sl true es)))(h0:es=[]:=by exact rfl):Le B N ⟨env,s⟩ (hm.set (.x s.live.length 1 (.sl e size [])) ⟨env,⟨s.heap,s.live++[1]⟩⟩):=⟨λG a w hR=>by
 subst h0;obtain⟨G1,s1,r1,t1,c1,n1⟩:=Qu2 hR;obtain⟨s2,i2⟩:=Qje r1.inv t1 rfl (Nat.zero_lt_one) (bk:=none) rfl rfl rfl (Nat.le_refl _) (λk hk hne=>rfl) (λg hg=>by cases hg) (.refl w);rw[show(⟨env,⟨s.heap,s.live++[0]⟩⟩:St).s.live.set s.live.length 1=s.live++[1] from Q23 _ _] at i2;refine⟨_,(s1.trans s2).ex B,Qtl hR (s1.trans s2) i2 n1 (λb hb=>rfl) hg λu hu=>?_⟩;cases hu with
 | p _ _ hx =>
  obtain⟨ad,cap,rfl,q1,q2,q3,q4⟩:=hx.isSlice;have hc:cap=0:=q3 rfl;subst hc;exact⟨.x _ 1 _ _ ⟨1,none,0,none⟩ (Qgq t1) rfl (Nat.le_refl _) rfl λ_ =>.sl e size [] ad 0 (λ_=>rfl) ⟨λx hx=>(nomatch hx),Nat.le_refl _,Nat.zero_le _,.inl ⟨rfl,trivial⟩⟩,rfl⟩⟩
end Go.Proofs.YtfgegilhjlnohaaGreat
end
