/- Part 10 of 12. -/
import Derived.Test.YtfgegilhjlnohaaGreatMgInferWide9

noncomputable section
namespace Go.Proofs.YtfgegilhjlnohaaGreat
open Go.RowKit
set_option linter.unusedSimpArgs false
set_option linter.unusedVariables false
theorem inL(l:List Nm)(s:Nm)(hl:l.length<9223372036854775807):∀ k,k<=l.length->Qqj l s k=some (if s ∈ l.drop k then .inr () else .inl ()):=by
 refine upto ?_ λk hk ih=>?_
 .rw[Qqj]; simp
 .rw[Qqj,Qce hk];simp only[ltI,hk,decide_true,if_true,Qax,getE hk,Qac];by_cases h:l[k]=s
  .simp[h]
  .have h2:¬ s=l[k]:=λe=>h e.symm
   simp only[beq_iff_eq,h,if_false,Qa0 (show k<9223372036854775807 by omega),ih,List.mem_cons,h2,false_or]
theorem rIn(l:List Nm)(s:Nm)(hl:l.length<9223372036854775807):Q7d l s=some (decide (s ∈ l)):=by
 have:=inL l s hl 0 (by omega);rw[Q7d,show(0:Int)=((0:Nat):Int) from rfl,this];by_cases h:s ∈ l<;>simp[h]
theorem Qanm(l:List Nm)(s:Nm)(hl:l.length<9223372036854775807):∀ k,k<=l.length->Qlq l s k=some ((k+((l.drop k).takeWhile (Op.bytesLess · s)).length:Nat):Int):=by
 refine upto ?_ λk hk ih=>?_
 .rw[Qlq]; simp
 .rw[Qlq,Qce hk];simp only[ltI,hk,decide_true,if_true,Qax,getE hk,Qac];cases hb:Op.bytesLess l[k] s with
  | true =>
   simp only[if_true,Qa0 (show k<9223372036854775807 by omega),ih,List.takeWhile_cons,hb,List.length_cons];congr 2; omega
  | false=>simp only[Bool.false_eq_true,if_false,List.takeWhile_cons,hb,List.length_nil,Nat.add_zero]
theorem Qaft(s:Nm):∀ l:List Nm,up l->s ∉ l->l.take (l.takeWhile (Op.bytesLess · s)).length++s::l.drop (l.takeWhile (Op.bytesLess · s)).length=insS s l
 | [],_,_=>by simp[insS]
 | x::r,h,hs=>by
  obtain⟨h1,h2⟩:=List.pairwise_cons.1 h;have hne:¬ s=x:=λe=>hs (by rw[e]; simp)
  have hr:s ∉ r:=λe=>hs (List.mem_cons_of_mem _ e)
  rw[List.takeWhile_cons,insS,if_neg hne];cases hb:Op.bytesLess x s with
  | true =>
   have hlt:=of_decide_eq_true ((bl x s).symm.trans hb);have hn:Op.bytesLess s x=false:=by rw[bl]; exact decide_eq_false (nlt hlt)
   simp only[if_true,List.length_cons,List.take_succ_cons,List.drop_succ_cons,hn,Bool.false_eq_true,if_false,List.cons_append,Qaft s r h2 hr]
  | false =>
   have hlt:=of_decide_eq_false ((bl x s).symm.trans hb);have hn:Op.bytesLess s x=true:=by
    rw[bl];exact decide_eq_true (Classical.byContradiction λk=>hne (Qafo k hlt))
   simp[hn]
theorem Qajq(l:List Nm)(s:Nm)(h:up l)(hl:l.length<=1000000):Qtt l s=some (insS s l):=by
 rw[Qtt,rIn l s (by omega),Qac];by_cases hs:s ∈ l
 .rw[if_pos (by simpa using hs)];exact congrArg some (Qvx h (Qva s h) λx=>by rw[Qmg]; exact⟨.inr,λk=>k.elim (λe=>e ▸ hs) id⟩)
 .rw[if_neg (by simpa using hs),show(0:Int)=((0:Nat):Int) from rfl,Qanm l s (by omega) 0 (by omega),Qac];simp only[List.drop_zero,Nat.zero_add];have e:=Qaft s l h hs;have hm:(l.takeWhile (Op.bytesLess · s)).length<=l.length:=(List.takeWhile_sublist _).length_le;generalize (l.takeWhile (Op.bytesLess · s)).length=m at e hm ⊢;rw[Qoc (by omega) (by omega) (by omega),Qac,Qfg (by simp; omega) (by simp; omega),Qac,Qfg (by simp; omega) (by simp; omega),Qac,Qoc (by omega) (by omega) (by omega),Qac,Qfg (by simp; omega) (by simp; omega),Qac];have e2:[]++List.drop (Int.toNat ((0:Nat):Int)) (List.take (Int.toNat (m:Int)) l)++[s]++List.drop (Int.toNat (m:Int)) (List.take (Int.toNat (l.length:Int)) l)=insS s l:=by
   rw[<-e]; simp
  rw[e2,Qp2,Qac];rw[List.length_map,List.length_map,<-e];simp; omega
theorem Qabm(s:Nm)(l:List Nm):(insS s l).length<=l.length+1:=by
 induction l with
 | nil=>simp[insS]
 | cons x r ih =>
  unfold insS;split
  .simp
  .split
   .simp
   .simp; omega
theorem Qalp(p0:List Qaa)(v4:Int)(x9 x:List Nm)(hx:x.length<=1000):∀ k,k<=x.length->∀ v:List Nm,up v->v.length+(x.length-k)<=100000->Qi1 p0 v4 x9 x v k=some (upL (v++x.drop k)):=by
 refine upto ?_ λk hk ih=>?_
 .intro v hv _;rw[Qi1];simp[Q7n hv]
 .intro v hv hb;rw[Qi1,Qce hk];simp only[ltI,hk,decide_true,if_true,Qax,getE hk,Qac];have:=Qabm x[k] v;rw[Qajq v _ hv (by omega),Qac,Qa0 (by omega),ih _ (Qva _ hv) (by omega)];refine congrArg some (Qabj λy=>?_);simp only[List.mem_append,Qmg,List.mem_cons];constructor
  .rintro ((h | h) | h)
   .exact .inr (.inl h)
   .exact .inl h
   .exact .inr (.inr h)
  .rintro (h | h | h)
   .exact .inl (.inr h)
   .exact .inl (.inl h)
   .exact .inr h
theorem Qalq(l:List Qaa)(n:Nat)(hn:n<=1000)(ih:∀ m:List Qaa,nns m<=n->Qgb m=some (Qlx m))(hl:nns l<=n+1) :
  ∀ k,k<=l.length->∀ v:List Nm,up v->v.length+nns (l.drop k)<=10000->Qg1 l v k=some (upL (v++usL (l.drop k))):=by
 have hlen:l.length<=1001:=Nat.le_trans (Qfj l) (by omega);refine upto ?_ λk hk ih2=>?_
 .intro v hv _;rw[Qg1];simp[usL,Q7n hv]
 .intro v hv hb;rw[Qce hk,nns,Qi3] at hb;rw[Qg1,Qce hk];have hm:=Qfk (List.getElem_mem hk);have e1:=Qi3 l[k];simp only[ltI,hk,decide_true,if_true,Qax,getE hk,Qac];have hT:=ih l[k].Then (by omega);have hE:=ih l[k].Else (by omega);have lT:=Qy4 (Nat.le_refl (nns l[k].Then));have lE:=Qy4 (Nat.le_refl (nns l[k].Else));have key:∀ v' : List Nm,up v' -> v'.length<=v.length+1->(∀ x,x ∈ v' ↔ x ∈ v\/x ∈ (if l[k].Kind==13 then [l[k].Name] else [])) ->
    (Qgb l[k].Then>>=λx7=>Qgb l[k].Else>>=λx9=>appL 16 x7 x9>>=λx10=>(Qi1 l k x9 x10 v' 0)>>=λo11=>Qg1 l o11 (wr ((k:Int)+1)))=some (upL (v++usL (l[k]::l.drop (k+1)))):=λv' hv' hl' hm' => by
   rw[hT,Qac,hE,Qac,Qfg (by omega) (by omega),Qac];have h2:=Qalp l k (Qlx l[k].Else) (Qlx l[k].Then++Qlx l[k].Else) (by rw[List.length_append]; omega) 0 (by omega) v' hv' (by rw[List.length_append]; omega);rw[show((0:Nat):Int)=0 from rfl] at h2;rw[h2,Qac,Qa0 (by omega)];have hlu:=Qafp (v' ++ (Qlx l[k].Then++Qlx l[k].Else).drop 0);rw[List.drop_zero,List.length_append,List.length_append] at hlu;rw[List.drop_zero,ih2 _ (Qhy _) (by omega)];refine congrArg some (Qabj λx=>?_);simp only[List.mem_append,Qew,hm', usL,Qj0,Qlx];constructor
   .rintro (((h | h) | h | h) | h)
    .exact .inl h
    .exact .inr (.inl (.inl h))
    .exact .inr (.inl (.inr (.inl h)))
    .exact .inr (.inl (.inr (.inr h)))
    .exact .inr (.inr h)
   .rintro (h | (h | h | h) | h)
    .exact .inl (.inl (.inl h))
    .exact .inl (.inl (.inr h))
    .exact .inl (.inr (.inl h))
    .exact .inl (.inr (.inr h))
    .exact .inr h
  by_cases hk13:(l[k].Kind==13)=true
  .rw[if_pos hk13,Qajq v _ hv (by omega),Qac,Qac];refine key _ (Qva _ hv) (Qabm _ _) λx=>?_
   rw[if_pos hk13,Qmg,List.mem_singleton,or_comm]
  .rw[if_neg hk13,Qac];refine key _ hv (by omega) λx=>?_
   rw[if_neg hk13]; simp
theorem Qajr:∀ n (l:List Qaa),n<=1000->nns l<=n->Qgb l=some (Qlx l)
 | 0,l,_,h=>by
  cases l with
  | nil=>rw[Qgb,Qg1]; simp[Qlx,usL,upL]
  | cons x r=>rw[nns] at h; have:=Qkv x; omega
 | n+1,l,hn,h=>by
  have:=Qalq l n (by omega) (λm hm=>Qajr n m (by omega) hm) h 0 (by omega) [] List.Pairwise.nil (by simp; omega);rw[show((0:Nat):Int)=0 from rfl] at this;rw[Qgb,this];simp[Qlx]
theorem Qalr:∀ n (l:List Qaa) (h:List Nm),n<=1000->nns l<=n->h.length<=9000->Qdd l h=some (h++usL l):=by
 have key:∀ n (l:List Qaa) (h:List Nm),n<=1000->nns l<=n->h.length+nns l<=10000->Qdd l h=some (h++usL l):=by
  intro n
  induction n with
  | zero =>
   intro l h _ hl _;cases l with
   | nil=>rw[Qdd,Qdq]; simp[usL]
   | cons x r=>rw[nns] at hl; have:=Qkv x; omega
  | succ n ih =>
   intro l h hn hl hb;have hlen:l.length<=1001:=Nat.le_trans (Qfj l) (by omega);have main:∀ k,k<=l.length->∀ v:List Nm,v.length+nns (l.drop k)<=10000->Qdq l k v=some (v++usL (l.drop k)):=by
    refine upto ?_ λk hk ih2=>?_
    .intro v _;rw[Qdq];simp[usL]
    .intro v hb;rw[Qce hk,nns,Qi3] at hb;rw[Qdq,Qce hk];have hm:=Qfk (List.getElem_mem hk);have e1:=Qi3 l[k];simp only[ltI,hk,decide_true,if_true,Qax,getE hk,Qac];have lT:=Q4i _ _ (Nat.le_refl (nns l[k].Then));have lE:=Q4i _ _ (Nat.le_refl (nns l[k].Else));by_cases hk13:(l[k].Kind==13)=true
     .rw[if_pos hk13,Qfg (by simp; omega) (by simp; omega),Qac,Qac,ih _ _ (by omega) (by omega) (by simp; omega),Qac,ih _ _ (by omega) (by omega) (by simp; omega),Qac,Qa0 (by omega),ih2 _ (by simp; omega),usL,Qj0,if_pos hk13];simp
     .rw[if_neg hk13,Qac,ih _ _ (by omega) (by omega) (by omega),Qac,ih _ _ (by omega) (by omega) (by simp; omega),Qac,Qa0 (by omega),ih2 _ (by simp; omega),usL,Qj0,if_neg hk13];simp
   have:=main 0 (by omega) h (by simpa using hb);rw[show((0:Nat):Int)=0 from rfl] at this;rw[Qdd,this];simp
 exact λn l h hn hl hb=>key n l h hn hl (by omega)
theorem Qann(l:List Qaa)(h:nns l<=1000):Qnr l=some (Qlx l):=by
 have hl:=Q4i _ l (Nat.le_refl _);rw[Qnr,Qalr 1000 l [] (by omega) h (by simp),Qac,List.nil_append,Qp2 (by omega),Qac,Qp2 (by simp only[srtL,List.length_mergeSort]; omega),Qac];exact congrArg some (Qacy _)
theorem Qals(l:List Qad)(s:Nm)(hl:l.length<9223372036854775807):∀ k,k<=l.length->Qes l s k=some (match (l.drop k).find? (·.Name==s) with | none =>.inl () | some x =>.inr x.L):=by
 refine upto ?_ λk hk ih=>?_
 .rw[Qes]; simp
 .rw[Qes,Qce hk];simp only[ltI,hk,decide_true,if_true,Qax,getE hk,Qac,List.find?_cons];cases hb:(l[k].Name==s) with
  | true=>simp
  | false =>
   simp only[Bool.false_eq_true,if_false,Qa0 (show k<9223372036854775807 by omega),ih]
theorem Qalt(l:List Qad)(s:Nm)(hl:l.length<9223372036854775807):∀ k,k<=l.length->Qlp l s k=some (match (l.drop k).find? (·.Name==s) with | none =>.inl () | some x =>.inr x.L):=by
 refine upto ?_ λk hk ih=>?_
 .rw[Qlp]; simp
 .rw[Qlp,Qce hk];simp only[ltI,hk,decide_true,if_true,Qax,getE hk,Qac,List.find?_cons];cases hb:(l[k].Name==s) with
  | true=>simp
  | false =>
   simp only[Bool.false_eq_true,if_false,Qa0 (show k<9223372036854775807 by omega),ih]
def Qhl(l:List Qad)(s:Nm):List Qaa×Bool:=match fndT l s with | none=>([],false) | some x=>(x.L,true)
theorem Qajs(l:List Qad)(s:Nm)(hl:l.length<9223372036854775807):Qi2 l s=some (Qhl l s):=by
 have:=Qals l s hl 0 (by omega);rw[show((0:Nat):Int)=0 from rfl,List.drop_zero] at this;rw[Qi2,this,Qac,Qhl,fndT];cases l.find? (·.Name==s)<;>rfl
theorem Qac0(l:List Qad)(s:Nm)(hl:l.length<9223372036854775807):Qme l s=some (Qhl l s):=by
 have:=Qalt l s hl 0 (by omega);rw[show((0:Nat):Int)=0 from rfl,List.drop_zero] at this;rw[Qme,this,Qac,Qhl,fndT];cases l.find? (·.Name==s)<;>rfl
theorem Q2c(l:List Qad)(s:Nm):(Qhl l s).2=(fndT l s).isSome:=by
 unfold Qhl; cases fndT l s<;>rfl
theorem Qabn(l:List Qad)(s:Nm):Qlx (Qhl l s).1=suc l s:=by
 unfold Qhl suc;cases fndT l s with
 | none=>rfl
 | some x=>rfl
theorem Qtz{α : Type}(k x:Nm)(v : α):∀ m:List (Nm × α),mget (λa b=>a==b) k (mset (λa b=>a==b) x v m)=if k=x then some v else mget (λa b=>a==b) k m
 | []=>by
  unfold mset;rw[mget];by_cases h:k=x
  .simp[h,mget]
  .simp[h,mget]
 | p::r=>by
  have ih:=Qtz k x v r;rw[mset];by_cases hx:x=p.1
  .rw[if_pos (by simpa using hx),mget,mget];by_cases h:k=x
   .simp[h]
   .rw[if_neg h];have h2:¬ k=p.1:=λe=>h (e.trans hx.symm)
    simp[h,h2]
  .rw[if_neg (by simpa using hx),mget,ih,mget];by_cases h:k=p.1
   .have h2:¬ k=x:=λe=>hx (e.symm.trans h)
    rw[if_pos (by simpa using h),if_neg h2,if_pos (by simpa using h)]
   .simp[h]
def drwP:List Qad->List (Nm×List Nm)->List (Nm×List Nm)
 | [],m=>m
 | x::r,m=>drwP r (if(mget (λa b=>a==b) x.Name m).isSome then m else mset (λa b=>a==b) x.Name (Qlx x.L) m)
theorem Qafu(s:Nm):∀ (l:List Qad) (m:List (Nm×List Nm)),mget (λa b=>a==b) s (drwP l m)=(mget (λa b=>a==b) s m).or ((fndT l s).map λx=>Qlx x.L)
 | [],m=>by
  show mget _ s m=_;cases mget (λa b=>a==b) s m<;>rfl
 | x::r,m=>by
  rw[drwP,Qafu s r];unfold fndT;rw[List.find?_cons];by_cases hx:x.Name=s
  .have hb:(x.Name==s)=true:=by simpa using hx
   rw[hb];subst hx;cases hm:mget (λa b=>a==b) x.Name m with
   | some y=>simp[hm]
   | none=>simp[Qtz]
  .have hb:(x.Name==s)=false:=by simpa using hx
   rw[hb];split
   .rfl
   .rw[Qtz,if_neg (λe=>hx e.symm)]
def grP(l:List Qad):List (Nm×List Nm):=drwP l []
theorem Qaig(l:List Qad)(s:Nm):mget (λa b=>a==b) s (grP l)=(fndT l s).map λx=>Qlx x.L:=by
 rw[grP,Qafu]; rfl
theorem Qabo(l:List Qad)(s:Nm):(mget (λa b=>a==b) s (grP l)).getD []=suc l s:=by
 rw[Qaig,suc]; cases fndT l s<;>rfl
theorem Qajt(l:List Qad)(s:Nm):(mget (λa b=>a==b) s (grP l)).isSome=(fndT l s).isSome:=by
 rw[Qaig]; cases fndT l s<;>rfl
structure okTs (l:List Qad):Prop where
 len:l.length<=100
 nn:∀ x ∈ l,nns x.L<=100
 ok:∀ x ∈ l,allL okNd x.L
 nm:∀ x ∈ l,x.Name.length<=100
theorem Qalu(l:List Qad)(ho:okTs l):∀ k,k<=l.length->∀ m,Qde l k m=some (drwP (l.drop k) m):=by
 have:=ho.len;refine upto ?_ λk hk ih=>?_
 .intro m; rw[Qde]; simp[drwP]
 .intro m;rw[Qde,Qce hk,drwP];simp only[ltI,hk,decide_true,if_true,Qax,getE hk,Qac];have hu:=Qann l[k].L (Nat.le_trans (ho.nn _ (List.getElem_mem hk)) (by omega));cases hb:(mget (λa b=>a==b) l[k].Name m).isSome with
  | true=>simp only[Bool.not_true,Bool.false_eq_true,if_false,if_true,Qa0 (show k<9223372036854775807 by omega),ih]
  | false=>simp only[Bool.not_false,if_true,Bool.false_eq_true,if_false,hu,Qac,Qa0 (show k<9223372036854775807 by omega),ih]
theorem Qalv(l:List Qad)(ho:okTs l):Qlr l=some (grP l):=by
 have:=Qalu l ho 0 (by omega) [];rw[show((0:Nat):Int)=0 from rfl,List.drop_zero] at this;rw[Qlr,this]; rfl
theorem Qaju(l:List Nm)(s:Nm)(hl:l.length<9223372036854775807):∀ k,k<=l.length->∃ r,Qa4 l s k=some r/\((∃ j:Nat,r = .inr (j:Int))/\s ∈ l.drop k\/r = .inl ()/\s ∉ l.drop k):=by
 refine upto ?_ λk hk ih=>?_
 .refine⟨.inl (),?_,.inr ⟨rfl,by simp⟩⟩;rw[Qa4]; simp
 .rw[Qa4,Qce hk];simp only[ltI,hk,decide_true,if_true,Qax,getE hk,Qac];by_cases h:s=l[k]
  .exact⟨.inr (k:Int),by simp[h],.inl ⟨⟨k,rfl⟩,by rw[h]; exact List.mem_cons_self⟩⟩
  .obtain⟨r,h1,h2⟩:=ih;refine⟨r,?_,?_⟩
   .simp only[beq_iff_eq,h,if_false,Qa0 (show k<9223372036854775807 by omega),h1]
   .simpa only[List.mem_cons,h,false_or] using h2
theorem Q7p(l:List Nm)(s:Nm)(hl:l.length<9223372036854775807):Qbb l s=some (decide (s ∈ l)):=by
 obtain⟨r,h1,h2⟩:=Qaju l s hl 0 (by omega);rw[show((0:Nat):Int)=0 from rfl] at h1;rw[List.drop_zero] at h2;rw[Qbb,Qcs,h1,Qac];rcases h2 with ⟨⟨j,rfl⟩,h3⟩ | ⟨rfl,h3⟩
 .have:decide ((j:Int) >= 0)=true:=decide_eq_true (by omega);simp only[Qac,this,h3,decide_true]
 .simp only[Qac,h3,decide_false];rfl
def Met(o:List Nm)(m:List (Nm×Int)):Prop:=∀ s,((mget (λa b=>a==b) s m).getD 0==0) = !decide (s ∈ o)
theorem Met.set{o:List Nm}{m:List (Nm×Int)}(h:Met o m)(x:Nm):Met (o++[x]) (mset (λa b=>a==b) x 1 m):=λs=>by
 rw[Qtz];by_cases hs:s=x
 .simp[hs]
 .rw[if_neg hs,h s];simp[hs]
theorem Qalw(g:List (Nm×List Nm))(x:List Nm)(hx:x.length<9223372036854775807):∀ k,k<=x.length->∀ m,Met (x.take k) m->∃ m', Qcf g x k m=some m' /\ Met x m' := by
 refine upto ?_ λk hk ih=>?_
 .intro m hm;rw[List.take_length] at hm;exact⟨m,by rw[Qcf]; simp,hm⟩
 .intro m hm;obtain⟨m', h1,h2⟩:=ih _ (by rw[List.take_succ_eq_append_getElem hk]; exact hm.set x[k]);refine⟨m', ?_,h2⟩;rw[Qcf];simp only[ltI,hk,decide_true,if_true,Qax,getE hk,Qac,Qa0 (show k<9223372036854775807 by omega),h1]
theorem Qalx(g:List (Nm×List Nm))(v9:Int)(x5:Nm)(ys:List Nm)(hy:(mget (λa b=>a==b) x5 g).getD []=ys)(hl:ys.length<=1000):∀ k,k<=ys.length->∀ (out:List Nm) (m:List (Nm×Int)),Met out m->out.Nodup->out.length+(ys.length-k)<=1000000 ->
  ∃ ext m', Qbw g v9 x5 out k m=some (out++ext,m')/\Met (out++ext) m' /\ (out++ext).Nodup/\(∀ x ∈ ext,x ∈ ys)/\∀ y ∈ ys.drop k,y ∈ out++ext:=by
 refine upto ?_ λk hk ih=>?_
 .intro out m hm hn _;refine⟨[],m,?_,by rwa [List.append_nil],by rwa [List.append_nil],λx hx=>(nomatch hx),by simp⟩;rw[Qbw,hy]; simp
 .intro out m hm hn hb;rw[Qbw,hy];simp only[ltI,hk,decide_true,if_true,Qax,getE hk,Qac,hm ys[k]];by_cases hin:ys[k] ∈ out
  .obtain⟨ext,m', h1,h2,h3,h4,h5⟩:=ih out m hm hn (by omega);refine⟨ext,m', ?_,h2,h3,h4,λy hy' => ?_⟩
   .simp only[hin,decide_true,Bool.not_true,Bool.false_eq_true,if_false,Qa0 (show k<9223372036854775807 by omega),h1]
   .rw[Qce hk] at hy';rcases List.mem_cons.1 hy' with rfl | hy'
    .exact List.mem_append_left _ hin
    .exact h5 y hy'
  .obtain⟨ext,m', h1,h2,h3,h4,h5⟩:=ih (out++[ys[k]]) _ (hm.set ys[k]) (List.nodup_append.2 ⟨hn,by simp,λa ha b hb' => by
    rw[List.mem_singleton.1 hb']; intro e; exact hin (e ▸ ha)⟩) (by simp; omega)
   refine⟨ys[k]::ext,m', ?_,?_,?_,λx hx=>?_,λy hy' => ?_⟩
   .simp only[hin,decide_false,Bool.not_false,if_true];rw[Qfg (by simp; omega) (by simp; omega),Qac,Qa0 (by omega),h1];simp
   .simpa using h2
   .simpa using h3
   .rcases List.mem_cons.1 hx with rfl | hx
    .exact List.getElem_mem hk
    .exact h4 x hx
   .rw[Qce hk] at hy';rcases List.mem_cons.1 hy' with rfl | hy'
    .simp
    .simpa using h5 y hy'
theorem Q4k{l:List Qad}(ho:okTs l)(s:Nm):(suc l s).length<=100:=by
 unfold suc;split
 .simp
 .rename_i x hx;exact Qy4 (ho.nn x (List.mem_of_find?_eq_some hx))
theorem Qaly{l:List Qad}(ho:okTs l)(hc:closed l):∀ n i (out:List Nm) (m:List (Nm×Int)),l.length<=n+i->i<=out.length->out.Nodup->(∀ x ∈ out,x ∈ nms l)->Met out m->(∀ k,(hk:k<i)->(hk2:k<out.length)->∀ u ∈ suc l out[k],u ∈ out) ->
  ∃ out' m', Qbx (grP l) out i m=some (out', m')/\out'.Nodup/\(∀ x ∈ out,x ∈ out')/\(∀ s ∈ out', ∀ u ∈ suc l s,u ∈ out')/\(∀ x ∈ out', x ∈ nms l)/\∀ C:Nm->Prop,(∀ s,C s->∀ u ∈ suc l s,C u)->(∀ x ∈ out,C x)->∀ x ∈ out', C x:=by
 intro n;have hlen:=ho.len;have fin:∀ i (out:List Nm) (m:List (Nm×Int)),¬ i<out.length->out.Nodup->(∀ x ∈ out,x ∈ nms l)->(∀ k,(hk:k<i)->(hk2:k<out.length)->∀ u ∈ suc l out[k],u ∈ out) ->
   ∃ out' m', Qbx (grP l) out i m=some (out', m')/\out'.Nodup/\(∀ x ∈ out,x ∈ out')/\(∀ s ∈ out', ∀ u ∈ suc l s,u ∈ out')/\(∀ x ∈ out', x ∈ nms l)/\∀ C:Nm->Prop,(∀ s,C s->∀ u ∈ suc l s,C u)->(∀ x ∈ out,C x)->∀ x ∈ out', C x:=λi out m hi hn hN hs=>by
  refine⟨out,m,?_,hn,λ_ h=>h,λs hs' u hu=>?_,hN,λC _ h=>h⟩
  .rw[Qbx];simp only[ltI,hi,decide_false,Bool.false_eq_true,if_false]
  .obtain⟨k,hk,rfl⟩:=List.mem_iff_getElem.1 hs';exact hs k (by omega) hk u hu
 induction n with
 | zero =>
  intro i out m hi hio hn hN hm hs;have hle:=List.Nodup.length_le_of_subset hn (l₂ := nms l) λx hx=>hN x hx
  rw[List.length_map] at hle;exact fin i out m (by omega) hn hN hs
 | succ n ih =>
  intro i out m hi hio hn hN hm hs;by_cases hlt:i<out.length
  .have hle:=List.Nodup.length_le_of_subset hn (l₂ := nms l) λx hx=>hN x hx
   rw[List.length_map] at hle;have hsl:=Q4k ho out[i];obtain⟨ext,m1,h1,h2,h3,h4,h5⟩:=Qalx (grP l) i out[i] _ (Qabo l out[i]) (by omega) 0 (by omega) out m hm hn (by omega);rw[List.drop_zero] at h5;obtain⟨out', m', g1,g2,g3,g4,g5,g6⟩:=ih (i+1) (out++ext) m1 (by omega) (by simp; omega) h3 (λx hx=>by
    rcases List.mem_append.1 hx with hx | hx
    .exact hN x hx
    .exact hc out[i] x (h4 x hx)) h2 (λk hk hk2 u hu=>by
    have hkl:k<out.length:=by omega
    rw[List.getElem_append_left hkl] at hu;by_cases hki:k=i
    .subst hki; exact h5 u hu
    .exact List.mem_append_left _ (hs k (by omega) hkl u hu))
   refine⟨out', m', ?_,g2,λx hx=>g3 x (List.mem_append_left _ hx),g4,g5,λC hC h=>g6 C hC λx hx=>?_⟩
   .rw[show((0:Nat):Int)=0 from rfl] at h1;rw[Qbx];simp only[ltI,hlt,decide_true,if_true,Qax,getE hlt,Qac,h1,Qa0 (show i<9223372036854775807 by omega),g1]
   .rcases List.mem_append.1 hx with hx | hx
    .exact h x hx
    .exact hC out[i] (h _ (List.getElem_mem hlt)) x (h4 x hx)
  .exact fin i out m hlt hn hN hs
theorem Qalz{l:List Qad}(ho:okTs l)(hc:closed l){o:List Nm}(hn:o.Nodup)(hN:∀ x ∈ o,x ∈ nms l):Qfc o (grP l)=some (froP l (upL o)):=by
 have hlen:=ho.len;have hle:=List.Nodup.length_le_of_subset hn (l₂ := nms l) λx hx=>hN x hx
 rw[List.length_map] at hle;obtain⟨m1,h1,h2⟩:=Qalw (grP l) o (by omega) 0 (by omega) [] (λs=>by simp[mget]);obtain⟨out,m2,g1,g2,g3,g4,g5,g6⟩:=Qaly ho hc l.length 0 o m1 (by omega) (by omega) hn hN h2 (λk hk=>by omega);have hol:=List.Nodup.length_le_of_subset g2 (l₂ := nms l) λx hx=>g5 x hx
 rw[List.length_map] at hol;rw[show((0:Nat):Int)=0 from rfl] at h1 g1;rw[Qfc,Qcr,Qfg (by simp; omega) (by simp; omega),Qac,List.nil_append,h1,Qac,g1,Qac,Qp2 (by show out.length<_; omega),Qac];refine congrArg some ?_;show(out.mergeSort λx y=>decide (x<=y))=_;rw[Qafq g2];have hN2:∀ x ∈ upL o,x ∈ nms l:=λx hx=>hN x (Qew.1 hx)
 refine Qvx (Qhy _) (Q9u (Qhy _)) λx=>?_
 rw[Qew];exact⟨g6 (λx=>x ∈ froP l (upL o)) (λs hs u hu=>Qsy hc (Qhy o) hN2 s hs u hu) (λx hx=>Qabk (Qew.2 hx)) x,
  Qns (C:=λx=>x ∈ out) (λs hs u hu=>g4 s hs u hu) (λx hx=>g3 x (Qew.1 hx)) x⟩
theorem Qaih{l:List Qad}(ho:okTs l){v:List Nm}(hu:up v)(hN:∀ x ∈ v,x ∈ nms l):v.length<=100:=by
 have hle:=List.Nodup.length_le_of_subset (Qji hu) (l₂ := nms l) λx hx=>hN x hx
 rw[List.length_map] at hle;exact Nat.le_trans hle ho.len
theorem Qano(l:List Qad)(ho:okTs l)(v7:List Nm)(v8 v10:Int)(x7:List Nm)(hx:x7.length<=1000)(hx2:∀ x ∈ x7,x ∈ nms l):∀ k,k<=x7.length->∀ v:List Nm,up v->(∀ x ∈ v,x ∈ nms l)->Qjs l v7 v8 v10 x7 v k=some (upL (v++x7.drop k)):=by
 refine upto ?_ λk hk ih=>?_
 .intro v hv _;rw[Qjs];simp[Q7n hv]
 .intro v hv hN;have hl:=Qaih ho hv hN;rw[Qjs,Qce hk];simp only[ltI,hk,decide_true,if_true,Qax,getE hk,Qac];rw[Qajq v _ hv (by omega),Qac,Qa0 (by omega),ih _ (Qva _ hv) (λx hx' => by
   rcases (Qmg _ _ _).1 hx' with rfl | hx'
   .exact hx2 _ (List.getElem_mem hk)
   .exact hN x hx')]
  refine congrArg some (Qabj λy=>?_);simp only[List.mem_append,Qmg,List.mem_cons];constructor
  .rintro ((h | h) | h)
   .exact .inr (.inl h)
   .exact .inl h
   .exact .inr (.inr h)
  .rintro (h | h | h)
   .exact .inl (.inr h)
   .exact .inl (.inl h)
   .exact .inr h
theorem Q7q{l:List Qad}(ho:okTs l)(s:Nm):Qgb (Qhl l s).1=some (suc l s):=by
 rw[<-Qabn];refine Qajr 1000 _ (Nat.le_refl _) ?_;unfold Qhl;cases hf:fndT l s with
 | none=>simp[nns]
 | some x=>exact Nat.le_trans (ho.nn x (List.mem_of_find?_eq_some hf)) (by omega)
theorem Qanp(l:List Qad)(ho:okTs l)(hc:closed l)(v7:List Nm)(hv7:v7.length<=1000)(v8:Int):∀ k,k<=v7.length->∀ v:List Nm,up v->(∀ x ∈ v,x ∈ nms l)->Qjt l v7 v8 v k=some (upL (v++(v7.drop k).flatMap (suc l))):=by
 have hlen:=ho.len;refine upto ?_ λk hk ih=>?_
 .intro v hv _;rw[Qjt];simp[Q7n hv]
 .intro v hv hN;rw[Qjt,Qce hk];simp only[ltI,hk,decide_true,if_true,Qax,getE hk,Qac,Qac0 l _ (by omega:l.length<9223372036854775807),Q7q ho];have h3:=Qano l ho v7 v8 k (suc l v7[k]) (Nat.le_trans (Q4k ho _) (by omega)) (hc v7[k]) 0 (by omega) v hv hN;rw[show((0:Nat):Int)=0 from rfl,List.drop_zero] at h3;rw[h3,Qac,Qa0 (by omega),ih _ (Qhy _) (λx hx=>by
   rw[Qew,List.mem_append] at hx;exact hx.elim (hN x) (hc _ x))]
  refine congrArg some (Qabj λy=>?_);simp only[List.mem_append,Qew,List.flatMap_cons,or_assoc]
theorem Qanq(l:List Qad)(ho:okTs l)(hc:closed l):∀ k,k<=l.length->∀ v:List Nm,up v->(∀ x ∈ v,x ∈ nms l)->Qju l v k=some (clo l (l.length-k) v):=by
 have hlen:=ho.len;refine upto ?_ λk hk ih=>?_
 .intro v _ _;rw[Qju];simp[clo]
 .intro v hv hN;have hl:=Qaih ho hv hN;rw[Qju];simp only[ltI,hk,decide_true,if_true];have h2:=Qanp l ho hc v (by omega) k 0 (by omega) v hv hN;rw[show((0:Nat):Int)=0 from rfl,List.drop_zero] at h2;rw[h2,Qac,Qa0 (by omega),ih _ (Qhy _) (λx hx=>by
   rw[Qew,List.mem_append,List.mem_flatMap] at hx;exact hx.elim (hN x) λ⟨s,_,hs⟩=>hc s x hs),show l.length-k=(l.length-(k+1))+1 by omega,clo]
  rfl
theorem Qal0(l:List Qad)(ho:okTs l)(hc:closed l)(s:Nm):Qyu l s=some (reaP l s):=by
 have hlen:=ho.len;have h1:=Qanq l ho hc 0 (by omega) (suc l s) (Qvy l s) (hc s);rw[show((0:Nat):Int)=0 from rfl] at h1;rw[Qyu,Qac0 l s (by omega),Qac,Q7q ho,Qac,h1];rfl
def fitT (x:Qad):Bool:=Qfn x.Name&&isP x.L
def ck1 (pre:List Qad):List Qad->Option (Nm×Int)
 | []=>none
 | x::r=>if !fitT x then some (x.Name,7) else if(fndT pre x.Name).isSome then some (x.Name,9) else ck1 (pre++[x]) r
def lost(l:List Qad)(x:Qad):Bool:=(suc l x.Name).any λu => !(fndT l u).isSome
def ring(l:List Qad)(x:Qad):Bool:=decide (x.Name ∈ reaP l x.Name)
def Qhz (l:List Qad):Nm×Int :=
 if l.length>16 then([],5) else
 match ck1 [] l with
 | some b=>b
 | none =>
  match l.find? (lost l) with
  | some x=>(x.Name,4)
  | none =>
   match l.find? (ring l) with
   | some x=>(x.Name,10)
   | none=>([],0)
theorem Qal1{l:List Qad}{k:Nat}(hk:k<l.length):l.take k++[l[k]]=l.take (k+1):=(List.take_succ_eq_append_getElem hk).symm
theorem Qajv(l:List Qad)(ho:okTs l):∀ k,k<=l.length->Qd8 l k=some (match ck1 (l.take k) (l.drop k) with | none =>.inl () | some b =>.inr b):=by
 have hlen:=ho.len;refine upto ?_ λk hk ih=>?_
 .rw[Qd8]; simp[ck1]
 .have hm:=List.getElem_mem hk;have h1:=Qajf l[k].Name (Nat.lt_of_le_of_lt (ho.nm _ hm) (by omega));have h2:=tIs l[k].L (Nat.le_trans (ho.nn _ hm) (by omega)) (ho.ok _ hm);have h3:cutL l 0 (k:Int)=some (l.take k):=by rw[Qoc (by omega) (by omega) (by omega)]; simp
  have h4:=Qajs (l.take k) l[k].Name (by simp; omega);rw[Qd8,Qce hk,ck1];simp only[ltI,hk,decide_true,if_true,Qax,getE hk,Qac,h1,h2,h3,h4,fitT,Q2c];rcases Bool.eq_false_or_eq_true (Qfn l[k].Name) with hn | hn
  .rcases Bool.eq_false_or_eq_true (isP l[k].L) with hi | hi
   .simp only[hn,hi,Bool.not_true,Bool.false_eq_true,if_false,Qac,Bool.and_true];rcases Bool.eq_false_or_eq_true (fndT (l.take k) l[k].Name).isSome with hf | hf
    .simp[hf]
    .simp only[hf,Bool.false_eq_true,if_false,Qa0 (show k<9223372036854775807 by omega),ih,Qal1 hk]
   .simp[hn,hi]
  .simp[hn]
theorem Qajw(l:List Qad)(ho:okTs l):∀ k,k<=l.length->Qjp l k=some (match ck1 (l.take k) (l.drop k) with | none =>.inl () | some b =>.inr b):=by
 have hlen:=ho.len;refine upto ?_ λk hk ih=>?_
 .rw[Qjp]; simp[ck1]
 .have hm:=List.getElem_mem hk;have h1:=Qajg l[k].Name (Nat.lt_of_le_of_lt (ho.nm _ hm) (by omega));have h2:=rIs l[k].L (Nat.le_trans (ho.nn _ hm) (by omega)) (ho.ok _ hm);have h3:cutL l 0 (k:Int)=some (l.take k):=by rw[Qoc (by omega) (by omega) (by omega)]; simp
  have h4:=Qac0 (l.take k) l[k].Name (by simp; omega);rw[Qjp,Qce hk,ck1];simp only[ltI,hk,decide_true,if_true,Qax,getE hk,Qac,h1,h2,h3,h4,fitT,Q2c];rcases Bool.eq_false_or_eq_true (Qfn l[k].Name) with hn | hn
  .rcases Bool.eq_false_or_eq_true (isP l[k].L) with hi | hi
   .simp only[hn,hi,Bool.not_true,Bool.false_eq_true,if_false,Qac,Bool.and_true];rcases Bool.eq_false_or_eq_true (fndT (l.take k) l[k].Name).isSome with hf | hf
    .simp[hf]
    .simp only[hf,Bool.false_eq_true,if_false,Qa0 (show k<9223372036854775807 by omega),ih,Qal1 hk]
   .simp[hn,hi]
  .simp[hn]
theorem Qafv:∀ (l pre:List Qad),(nms pre).Nodup->ck1 pre l=none->(nms (pre++l)).Nodup/\∀ x ∈ l,fitT x=true
 | [],pre,hn,_=>by simpa using hn
 | x::r,pre,hn,h=>by
  unfold ck1 at h;cases hf:fitT x with
  | false=>rw[hf] at h; simp at h
  | true =>
   rw[hf,if_neg (by simp)] at h;cases hs:(fndT pre x.Name).isSome with
   | true=>rw[hs,if_pos rfl] at h; cases h
   | false =>
    rw[hs,if_neg (by simp)] at h;have hnot:x.Name ∉ nms pre:=λk=>by rw[Qom.2 k] at hs; cases hs
    obtain⟨h1,h2⟩:=Qafv r (pre++[x]) (by
     rw[show nms (pre++[x])=nms pre++[x.Name] from List.map_append];exact List.nodup_append.2 ⟨hn,by simp,λa ha b hb e=>hnot (by rw[List.mem_singleton.1 hb] at e; exact e ▸ ha)⟩) h
    refine⟨by simpa using h1,λy hy=>?_⟩;rcases List.mem_cons.1 hy with rfl | hy
    .exact hf
    .exact h2 y hy
theorem Qabp:∀ (l pre:List Qad),(nms (pre++l)).Nodup->(∀ x ∈ l,fitT x=true)->ck1 pre l=none
 | [],_,_,_=>rfl
 | x::r,pre,hn,hf=>by
  have h1:(fndT pre x.Name).isSome=false:=by
   cases hs:(fndT pre x.Name).isSome with
   | false=>rfl
   | true =>
    have hm:=Qom.1 hs;rw[show nms (pre++x::r)=nms pre++(x.Name::nms r) from List.map_append] at hn;exact absurd rfl ((List.nodup_append.1 hn).2.2 _ hm _ List.mem_cons_self)
  rw[ck1,hf x List.mem_cons_self,h1];simp only[Bool.not_true,Bool.false_eq_true,if_false];exact Qabp r (pre++[x]) (by rw[List.append_assoc]; exact hn) λy hy=>hf y (List.mem_cons_of_mem _ hy)
theorem Qajx(l:List Qad)(v:Int)(x:Qad)(us:List Nm)(hx:suc l x.Name=us)(hl:us.length<=1000):∀ k,k<=us.length->Qd9 l (grP l) v x k=some (if((us.drop k).any λu => !(fndT l u).isSome)=true then .inr () else .inl ()):=by
 refine upto ?_ λk hk ih=>?_
 .rw[Qd9,Qabo,hx]; simp
 .rw[Qd9,Qabo,hx,Qce hk];simp only[ltI,hk,decide_true,if_true,Qax,getE hk,Qac,Qajt,List.any_cons];rcases Bool.eq_false_or_eq_true (fndT l us[k]).isSome with hb | hb
  .simp only[hb,Bool.not_true,Bool.false_eq_true,if_false,Bool.false_or,Qa0 (show k<9223372036854775807 by omega),ih]
  .simp only[hb,Bool.not_false,if_true,Bool.true_or]
theorem Qajy(l:List Qad)(ho:okTs l):∀ k,k<=l.length->Qea l (grP l) k=some (match (l.drop k).find? (lost l) with | none =>.inl () | some x =>.inr x.Name):=by
 have hlen:=ho.len;refine upto ?_ λk hk ih=>?_
 .rw[Qea]; simp
 .have h3:=Qajx l k l[k] _ rfl (Nat.le_trans (Q4k ho _) (by omega)) 0 (by omega);rw[show((0:Nat):Int)=0 from rfl,List.drop_zero] at h3;rw[Qea,Qce hk];simp only[ltI,hk,decide_true,if_true,Qax,getE hk,Qac,h3,List.find?_cons];rw[show((suc l l[k].Name).any λu => !(fndT l u).isSome)=lost l l[k] from rfl];cases hb:lost l l[k] with
  | true=>rfl
  | false=>simp only[Bool.false_eq_true,if_false,Qa0 (show k<9223372036854775807 by omega),ih]
theorem Qajz(l:List Qad)(hll:l.length<=1000)(v:Nat)(hv:v<l.length)(us:List Nm)(hl:us.length<=1000):∀ k,k<=us.length->Qjq l v us k=some (if((us.drop k).any λu => !(fndT l u).isSome)=true then .inr l[v].Name else .inl ()):=by
 refine upto ?_ λk hk ih=>?_
 .rw[Qjq]; simp
 .rw[Qjq,Qce hk];simp only[ltI,hk,decide_true,if_true,Qax,getE hk,getE hv,Qac,Qac0 l _ (by omega:l.length<9223372036854775807),Q2c,List.any_cons];rcases Bool.eq_false_or_eq_true (fndT l us[k]).isSome with hb | hb
  .simp only[hb,Bool.not_true,Bool.false_eq_true,if_false,Bool.false_or,Qa0 (show k<9223372036854775807 by omega),ih]
  .simp only[hb,Bool.not_false,if_true,Bool.true_or]
theorem Qaj0{l:List Qad}(ho:okTs l)(hn:(nms l).Nodup){x:Qad}(hx:x ∈ l):Qgb x.L=some (suc l x.Name):=by
 rw[Q9t hn hx];exact Qajr 1000 _ (Nat.le_refl _) (Nat.le_trans (ho.nn x hx) (by omega))
theorem Qaj1(l:List Qad)(ho:okTs l)(hn:(nms l).Nodup):∀ k,k<=l.length->Qjr l k=some (match (l.drop k).find? (lost l) with | none =>.inl () | some x =>.inr x.Name):=by
 have hlen:=ho.len;refine upto ?_ λk hk ih=>?_
 .rw[Qjr]; simp
 .have h3:=Qajz l (by omega) k hk (suc l l[k].Name) (Nat.le_trans (Q4k ho _) (by omega)) 0 (by omega);rw[show((0:Nat):Int)=0 from rfl,List.drop_zero] at h3;rw[Qjr,Qce hk];simp only[ltI,hk,decide_true,if_true,Qax,getE hk,Qac,Qaj0 ho hn (List.getElem_mem hk),h3,List.find?_cons];rw[show((suc l l[k].Name).any λu => !(fndT l u).isSome)=lost l l[k] from rfl];cases hb:lost l l[k] with
  | true=>rfl
  | false=>simp only[Bool.false_eq_true,if_false,Qa0 (show k<9223372036854775807 by omega),ih]
theorem Qsz{l:List Qad}(h:l.find? (lost l)=none):closed l:=λs u hu=>by
 cases hf:fndT l s with
 | none=>unfold suc at hu; rw[hf] at hu; cases hu
 | some x =>
  have hx:=List.mem_of_find?_eq_some hf;have he:x.Name=s:=by have:=List.find?_some hf; simpa using this
  have hl:=List.find?_eq_none.1 h x hx;have hl:lost l x=false:=by simpa using hl
  unfold lost at hl;rw[List.any_eq_false] at hl;have:=hl u (by rw[he]; exact hu);exact Qom.1 (by cases hu2:(fndT l u).isSome with | true=>rfl | false=>rw[hu2] at this; exact absurd rfl this)
theorem Qaj2(l:List Qad)(ho:okTs l)(hc:closed l):∀ k,k<=l.length->Qeb l (grP l) k=some (match (l.drop k).find? (ring l) with | none =>.inl () | some x =>.inr x.Name):=by
 have hlen:=ho.len;refine upto ?_ λk hk ih=>?_
 .rw[Qeb]; simp
 .have hf:=Qalz ho hc (Qji (Qvy l l[k].Name)) (hc l[k].Name);rw[Q7n (Qvy l l[k].Name)] at hf;have hfl:=Qabl hc (Qvy l l[k].Name) (hc l[k].Name);rw[Qeb,Qce hk];simp only[ltI,hk,decide_true,if_true,Qax,getE hk,Qac,Qabo,hf,Q7p _ l[k].Name (by omega:(froP l (suc l l[k].Name)).length<9223372036854775807),List.find?_cons];rw[show decide (l[k].Name ∈ froP l (suc l l[k].Name))=ring l l[k] from rfl];cases hb:ring l l[k] with
  | true=>rfl
  | false=>simp only[Bool.false_eq_true,if_false,Qa0 (show k<9223372036854775807 by omega),ih]
theorem Qaj3(l:List Qad)(ho:okTs l)(hc:closed l):∀ k,k<=l.length->Qjv l k=some (match (l.drop k).find? (ring l) with | none =>.inl () | some x =>.inr x.Name):=by
 have hlen:=ho.len;refine upto ?_ λk hk ih=>?_
 .rw[Qjv]; simp
 .have hfl:=Qabl hc (Qvy l l[k].Name) (hc l[k].Name);rw[Qjv,Qce hk];simp only[ltI,hk,decide_true,if_true,Qax,getE hk,Qac,Qal0 l ho hc,rIn (reaP l l[k].Name) l[k].Name (show(froP l (suc l l[k].Name)).length<9223372036854775807 by omega),List.find?_cons];rw[show decide (l[k].Name ∈ reaP l l[k].Name)=ring l l[k] from rfl];cases hb:ring l l[k] with
  | true=>rfl
  | false=>simp only[Bool.false_eq_true,if_false,Qa0 (show k<9223372036854775807 by omega),ih]
theorem Qal2(n:Nat):decide ((n:Int)>16)=decide (n>16):=by
 by_cases h:n>16
 .rw[decide_eq_true h]; exact decide_eq_true (by omega)
 .rw[decide_eq_false h]; exact decide_eq_false (by omega)
theorem Qal3(l:List Qad)(ho:okTs l):Qls l=some (Qhz l):=by
 have h1:=Qajv l ho 0 (by omega);have h2:=Qajy l ho 0 (by omega);have h4:=λhc=>Qaj2 l ho hc 0 (by omega)
 rw[show((0:Nat):Int)=0 from rfl] at h1 h2;rw[List.take_zero,List.drop_zero] at h1;rw[List.drop_zero] at h2;rw[Qls,Qhz,Qal2];by_cases hm:l.length>16
 .simp[hm]
 .simp only[hm,decide_false,Bool.false_eq_true,if_false,h1,Qac,Qalv l ho];cases hk:ck1 [] l with
  | some b=>rfl
  | none =>
   simp only[h2,Qac];cases hl:l.find? (lost l) with
   | some x=>rfl
   | none =>
    have h4:=h4 (Qsz hl);rw[show((0:Nat):Int)=0 from rfl,List.drop_zero] at h4;simp only[h4,Qac];cases hr:l.find? (ring l)<;>rfl
theorem Qal4(l:List Qad)(ho:okTs l):Qyv l=some (Qhz l):=by
 have h1:=Qajw l ho 0 (by omega);have h2:=λhn=>Qaj1 l ho hn 0 (by omega)
 have h4:=λhc=>Qaj3 l ho hc 0 (by omega)
 rw[show((0:Nat):Int)=0 from rfl] at h1;rw[List.take_zero,List.drop_zero] at h1;rw[Qyv,Qhz,Qal2];by_cases hm:l.length>16
 .simp[hm]
 .simp only[hm,decide_false,Bool.false_eq_true,if_false,h1,Qac];cases hk:ck1 [] l with
  | some b=>rfl
  | none =>
   have h2:=h2 (Qafv l [] (by simp) hk).1;rw[show((0:Nat):Int)=0 from rfl,List.drop_zero] at h2;simp only[h2,Qac];cases hl:l.find? (lost l) with
   | some x=>rfl
   | none =>
    have h4:=h4 (Qsz hl);rw[show((0:Nat):Int)=0 from rfl,List.drop_zero] at h4;simp only[h4,Qac];cases hr:l.find? (ring l)<;>rfl
structure fine (l:List Qad):Prop where
 many:l.length<=16
 nodup:(nms l).Nodup
 fit:∀ x ∈ l,fitT x=true
 closed:closed l
 noring:∀ s ∈ nms l,s ∉ reaP l s
theorem Qvb{l:List Qad}(h:(Qhz l).2=0):fine l/\(Qhz l).1=[]:=by
 unfold Qhz at h ⊢;by_cases hm:l.length>16
 .rw[if_pos hm] at h; cases h
 .rw[if_neg hm] at h ⊢;cases hk:ck1 [] l with
  | some b =>
   rw[hk] at h;exfalso;have key:∀ (r pre:List Qad) (b:Nm×Int),ck1 pre r=some b->b.2≠0:=by
    intro r
    induction r with
    | nil=>intro pre b hb; cases hb
    | cons x r ih =>
     intro pre b hb;unfold ck1 at hb;split at hb
     .cases hb; exact λe=>by cases e
     .split at hb
      .cases hb; exact λe=>by cases e
      .exact ih _ _ hb
   exact key l [] b hk h
  | none =>
   rw[hk] at h;simp only at h ⊢;obtain⟨a1,a2⟩:=Qafv l [] (by simp) hk;cases hl:l.find? (lost l) with
   | some x=>rw[hl] at h; cases h
   | none =>
    rw[hl] at h;simp only at h ⊢;cases hr:l.find? (ring l) with
    | some x=>rw[hr] at h; cases h
    | none =>
     refine⟨⟨by omega,a1,a2,Qsz hl,λs hs hin=>?_⟩,rfl⟩;obtain⟨x,hx,rfl⟩:=List.mem_map.1 hs;have:=List.find?_eq_none.1 hr x hx;exact this (by unfold ring; exact decide_eq_true hin)
end Go.Proofs.YtfgegilhjlnohaaGreat
end
noncomputable section
set_option linter.unusedVariables false
set_option linter.unusedSimpArgs false
set_option maxRecDepth 100000
set_option maxHeartbeats 4000000
namespace Go.Proofs.YtfgegilhjlnohaaGreat
open Go.RowKit
structure Qak where
 Name:(List UInt8)
 K:Int
 Secret:Bool
def Qbc (x:Qak):List V:=[sV x.Name,iV x.K,bV x.Secret]
structure Qfv where
 Where:(List UInt8)
 Bad:Bool
 Tells:Bool
structure Qa9 where
 name_:(List UInt8)
 it_:Bool
structure Qag where
 Kind:Int
 Text:(List UInt8)
 N:Int
 From:Int
 To:Int
def Qaf (x:Qag):List V:=[iV x.Kind,sV x.Text,iV x.N,iV x.From,iV x.To]
def Qvz (y:Int×Bool):D :=.tup [.p (iV y.1),.p (bV y.2)]
def Qj1 (y:(List Qag)×Int×Int):D :=.tup [.p (.sl false (y.1.map Qaf)),.p (iV y.2.1),.p (iV y.2.2)]
def Qoo:List (Nat×List Nat):=[(0,[0]),(1,[0,12]),(2,[2,3,4]),(3,[0,5]),(4,[0,5,6]),(5,[0,5,6,17]),(6,[0,5,6,7]),(7,[0,5,6,7,23]),(8,[0,5,7]),(9,[0,5,7,37]),(10,[2,3,4]),(11,[0,5,7]),(12,[0,5,6]),(13,[0,5,6,52]),(14,[0,5,6]),(15,[0,5,6]),(16,[0,5,6,62]),(17,[2,3,4]),(18,[0,5,6,8,9]),(19,[0,5,6,8,71]),(20,[2,3,4]),(21,[0,5,8]),(22,[0,5,6,8]),(23,[0,5,6,81]),(24,[2,3,4]),(1000005,[0,5,6]),(1000015,[0,5,6]),(2007005,[]),(2013005,[])]
def Qy5 (p0:(List UInt8)) (x4:Int) (o5:(List Qag)):St:=⟨[(0,.p (sV p0)),(5,.own 0 147 5 (o5.map Qaf)),(7,.p (iV x4))],⟨[],[(o5.map Qaf).length]⟩⟩
def Qy6 (p0:(List UInt8)) (x8:(List Qag)) (o10:Int):St:=⟨[(0,.p (sV p0)),(5,.own 0 147 5 (x8.map Qaf)),(6,.p (iV o10))],⟨[],[(x8.map Qaf).length]⟩⟩
def Qkn (p0:(List UInt8)) (v5_:(List Qag)) (v6_:Int):St:=⟨[(0,.p (sV p0)),(5,.own 0 147 5 (v5_.map Qaf)),(6,.p (iV v6_))],⟨[],[(v5_.map Qaf).length]⟩⟩
def Qo8 (p0:(List UInt8)) (y14:(List Qag)×Int):St:=⟨[(0,.p (sV p0)),(5,.own 0 147 5 (y14.1.map Qaf)),(6,.p (iV y14.2))],⟨[],[(y14.1.map Qaf).length]⟩⟩
def Qo9 (p0:(List UInt8)) (y15:Int):St:=⟨[(2,.p (.sl true [])),(3,.p (iV y15)),(4,.p (iV 7))],⟨[],[]⟩⟩
def Qy7:Code:=((Qa2 (Tryz.f115.body.getD .skip)).getD 1 .skip)
def Qko (p0:(List UInt8)) (v5:(List Qag)) (v6:Int):St:=⟨[(0,.p (sV p0)),(5,.own 0 147 5 (v5.map Qaf)),(6,.p (iV v6))],⟨[],[(v5.map Qaf).length]⟩⟩
def Qpa (p0:(List UInt8)) (y2:(List Qag)):St:=⟨[(5,.own 0 147 5 (y2.map Qaf))],⟨[],[(y2.map Qaf).length]⟩⟩
def Qpb (p0:(List UInt8)) (y3:(List Qag)×Int×Int):St:=⟨[(2,.p (.sl false (y3.1.map Qaf))),(3,.p (iV y3.2.1)),(4,.p (iV y3.2.2))],⟨[],[]⟩⟩
def Qy8:Code:=((Qa2 (Tryz.f115.body.getD .skip)).getD 0 .skip)
def Qs0 (y:Bool):D :=.p (bV y)
def Q7r:List (Nat×List Nat):=[(0,[0]),(1,[2]),(3000001,[])]
def Q0w  (o1:Bool):St:=⟨[(2,.p (bV o1))],⟨[],[]⟩⟩
def Qmh (y:Int):D :=.p (iV y)
def Qt0:List (Nat×List Nat):=[(0,[0,1]),(1,[0,1,14]),(2,[0,1]),(3,[4]),(1000001,[0,1]),(3000001,[])]
def Qy9 (p0:(List UInt8)) (v1:Int) (o2:Bool):St:=⟨[(0,.p (sV p0)),(1,.p (iV v1)),(14,.p (bV o2))],⟨[],[]⟩⟩
def Qkp (p0:(List UInt8)) (v1:Int):St:=⟨[(0,.p (sV p0)),(1,.p (iV v1))],⟨[],[]⟩⟩
def Qpc (p0:(List UInt8)) (o1:Int):St:=⟨[(1,.p (iV o1))],⟨[],[]⟩⟩
def Qza:Code:=((Qa2 (Tryz.f140.body.getD .skip)).getD 0 .skip)
def Qrd (y:Int):D :=.p (iV y)
def Qzb:List (Nat×List Nat):=[(0,[0,1,2]),(1,[0,1,2,17]),(2,[0,1,2]),(3,[6]),(1000001,[0,1,2]),(3000001,[])]
def Q4l (p0:(List UInt8)) (p1:(List UInt8)) (v2:Int) (o2:Bool):St:=⟨[(0,.p (sV p0)),(1,.p (sV p1)),(2,.p (iV v2)),(17,.p (bV o2))],⟨[],[]⟩⟩
def Qm3 (p0:(List UInt8)) (p1:(List UInt8)) (v2:Int):St:=⟨[(0,.p (sV p0)),(1,.p (sV p1)),(2,.p (iV v2))],⟨[],[]⟩⟩
def Qse (p0:(List UInt8)) (p1:(List UInt8)) (o1:Int):St:=⟨[(2,.p (iV o1))],⟨[],[]⟩⟩
def Q4m:Code:=((Qa2 (Tryz.f139.body.getD .skip)).getD 0 .skip)
def Qj2 (y:Qag×Bool):D :=.tup [.p (.agg [iV y.1.Kind,sV y.1.Text,iV y.1.N,iV y.1.From,iV y.1.To]),.p (bV y.2)]
def Qre:List (Nat×List Nat):=[(0,[0,1,4]),(1,[0,1,4,6]),(2,[0,1,4,6,7]),(3,[0,1,4,6,7,24]),(4,[1,4,6]),(5,[4,6]),(6,[4,5]),(7,[0,1,4,6,7,8]),(8,[0,1,4,6,7,8,9]),(9,[0,1,4,6,7,8,9,33]),(10,[0,1,4,6,7,8,9]),(11,[0,1,4,6,7,8,9,40]),(12,[4,6]),(13,[4,5]),(14,[0,1,4,6,7,48]),(15,[1,4,10,11]),(16,[4,5]),(17,[0,1,4,6,7,12]),(18,[0,1,4,6,7,12,64]),(19,[0,1,4,12,86]),(20,[0,1,4,12]),(21,[4,5]),(22,[0,1,4,6,12,106]),(23,[0,1,4,12,116]),(24,[0,1,4,12]),(25,[1,4,12,13,14]),(26,[4,5]),(27,[4,5]),(1000009,[0,1,4,6,7,8,9]),(1000019,[0,1,4,12]),(1000023,[0,1,4,12]),(3000019,[]),(3000022,[]),(3000023,[])]
def Qop (p0:(List UInt8)) (p1:Int) (x1:UInt8) (v9:Int):St:=⟨[(0,.p (sV p0)),(1,.p (iV p1)),(4,.ptr 0 0),(6,.ptr 1 0),(7,.p (nV .u8 (x1.toNat:Int))),(8,.p (sV [46,40,41,44,61])),(9,.p (iV v9))],⟨[[.p (iV 0),.p (sV []),.p (iV 0),.p (iV 0),.p (iV 0)],[.p (iV 0),.p (sV []),.p (iV 0),.p (iV p1),.p (iV (wr (p1+1)))]],[]⟩⟩
def Qt1 (p0:(List UInt8)) (p1:Int) (x1:UInt8) (y4:Unit):St:=⟨[(0,.p (sV p0)),(1,.p (iV p1)),(4,.ptr 0 0),(6,.ptr 1 0),(7,.p (nV .u8 (x1.toNat:Int)))],⟨[[.p (iV 0),.p (sV []),.p (iV 0),.p (iV 0),.p (iV 0)],[.p (iV 0),.p (sV []),.p (iV 0),.p (iV p1),.p (iV (wr (p1+1)))]],[]⟩⟩
def Qt2 (p0:(List UInt8)) (p1:Int) (x1:UInt8) (y5:Int×Int):St:=⟨[(4,.ptr 0 0),(5,.p (bV true))],⟨[[.p (iV y5.1),.p (sV []),.p (iV 0),.p (iV p1),.p (iV (wr (p1+1)))],[.p (iV y5.2),.p (sV []),.p (iV 0),.p (iV p1),.p (iV (wr (p1+1)))]],[]⟩⟩
def Q7s:Code:=((Qa2 (Tryz.f142.body.getD .skip)).getD 0 .skip)
def Q7t (p0:(List UInt8)) (p1:Int) (v12:Int) (o11:Bool):St:=⟨[(0,.p (sV p0)),(1,.p (iV p1)),(4,.ptr 0 0),(12,.p (iV v12)),(86,.p (bV o11))],⟨[[.p (iV 0),.p (sV []),.p (iV 0),.p (iV 0),.p (iV 0)],[.p (iV 0),.p (sV []),.p (iV 0),.p (iV p1),.p (iV (wr (p1+1)))]],[]⟩⟩
def Qoq (p0:(List UInt8)) (p1:Int) (v12:Int):St:=⟨[(0,.p (sV p0)),(1,.p (iV p1)),(4,.ptr 0 0),(12,.p (iV v12))],⟨[[.p (iV 0),.p (sV []),.p (iV 0),.p (iV 0),.p (iV 0)],[.p (iV 0),.p (sV []),.p (iV 0),.p (iV p1),.p (iV (wr (p1+1)))]],[]⟩⟩
def Qt3 (p0:(List UInt8)) (p1:Int) (o10:Int):St:=⟨[(0,.p (sV p0)),(1,.p (iV p1)),(4,.ptr 0 0),(12,.p (iV o10))],⟨[[.p (iV 0),.p (sV []),.p (iV 0),.p (iV 0),.p (iV 0)],[.p (iV 0),.p (sV []),.p (iV 0),.p (iV p1),.p (iV (wr (p1+1)))]],[]⟩⟩
def Q7u:Code:=((Qa2 (Tryz.f142.body.getD .skip)).getD 1 .skip)
def Q7v (p0:(List UInt8)) (p1:Int) (o20:Bool):St:=⟨[(0,.p (sV p0)),(1,.p (iV p1)),(4,.ptr 0 0),(6,.ptr 1 0),(12,.p (iV (wr (p1+1)))),(106,.p (bV o20))],⟨[[.p (iV 0),.p (sV []),.p (iV 0),.p (iV 0),.p (iV 0)],[.p (iV 0),.p (sV []),.p (iV 0),.p (iV p1),.p (iV (wr (p1+1)))]],[]⟩⟩
def Q7w (p0:(List UInt8)) (p1:Int) (v12:Int) (o23:Bool):St:=⟨[(0,.p (sV p0)),(1,.p (iV p1)),(4,.ptr 0 0),(12,.p (iV v12)),(116,.p (bV o23))],⟨[[.p (iV 0),.p (sV []),.p (iV 0),.p (iV 0),.p (iV 0)],[.p (iV 0),.p (sV []),.p (iV 0),.p (iV p1),.p (iV (wr (p1+1)))]],[]⟩⟩
def Qor (p0:(List UInt8)) (p1:Int) (v12:Int):St:=⟨[(0,.p (sV p0)),(1,.p (iV p1)),(4,.ptr 0 0),(12,.p (iV v12))],⟨[[.p (iV 0),.p (sV []),.p (iV 0),.p (iV 0),.p (iV 0)],[.p (iV 0),.p (sV []),.p (iV 0),.p (iV p1),.p (iV (wr (p1+1)))]],[]⟩⟩
def Qt4 (p0:(List UInt8)) (p1:Int) (o22:Int):St:=⟨[(0,.p (sV p0)),(1,.p (iV p1)),(4,.ptr 0 0),(12,.p (iV o22))],⟨[[.p (iV 0),.p (sV []),.p (iV 0),.p (iV 0),.p (iV 0)],[.p (iV 0),.p (sV []),.p (iV 0),.p (iV p1),.p (iV (wr (p1+1)))]],[]⟩⟩
def Q7x:Code:=((Qa2 (Tryz.f142.body.getD .skip)).getD 2 .skip)
def Qmi (y:(List UInt8)×Int):D :=.tup [.p (sV y.1),.p (iV y.2)]
def Qt5:List (Nat×List Nat):=[(0,[0,1]),(1,[0,1,6]),(2,[0,1,6]),(3,[0,1,6,15]),(4,[0,1,6,19]),(5,[4,5]),(6,[0,1,6,26]),(7,[0,1,6,31]),(8,[4,5]),(9,[0,1,6,7]),(10,[0,1,6,7,37]),(11,[0,1,6]),(12,[0,1,6,7,41]),(13,[0,1,6]),(14,[0,1,6,49]),(15,[0,1,6]),(16,[4,5]),(17,[0,1,6]),(18,[0,1,6,8,9]),(19,[0,1,6,9,79]),(20,[4,5]),(21,[0,1,6,9]),(22,[0,1,6]),(23,[4,5]),(1000003,[0,1,6]),(3000009,[]),(3000014,[]),(3000019,[])]
def Qzc (p0:(List UInt8)) (v1:Int) (v6:(List UInt8)) (o6:Int):St:=⟨[(0,.p (sV p0)),(1,.p (iV v1)),(6,.p (sV v6)),(7,.p (nV .u8 o6))],⟨[],[]⟩⟩
def Qzd (p0:(List UInt8)) (v1:Int) (v6:(List UInt8)) (o8:Bool):St:=⟨[(0,.p (sV p0)),(1,.p (iV v1)),(6,.p (sV v6)),(49,.p (bV o8))],⟨[],[]⟩⟩
def Qze (p0:(List UInt8)) (v1:Int) (v6:(List UInt8)) (x10:Int×Int) (o11:Bool):St:=⟨[(0,.p (sV p0)),(1,.p (iV v1)),(6,.p (sV v6)),(9,.p (iV x10.2)),(79,.p (bV o11))],⟨[],[]⟩⟩
def Qd0 (p0:(List UInt8)) (v1:Int) (v6:(List UInt8)):St:=⟨[(0,.p (sV p0)),(1,.p (iV v1)),(6,.p (sV v6))],⟨[],[]⟩⟩
def Qpd (p0:(List UInt8)) (y2:Unit):St:=⟨[],⟨[],[]⟩⟩
def Qpe (p0:(List UInt8)) (y3:(List UInt8)×Int):St:=⟨[(4,.p (sV y3.1)),(5,.p (iV y3.2))],⟨[],[]⟩⟩
def Qzf:Code:=((Qa2 (Tryz.f159.body.getD .skip)).getD 0 .skip)
def Qfw (y:(List Qaa)×Int×Int):D :=.tup [.p (.sl false (y.1.map Qab)),.p (iV y.2.1),.p (iV y.2.2)]
def Q7y:List (Nat×List Nat):=[(0,[0]),(1,[0,5,6,7]),(2,[0,5,6,7,17]),(3,[2,3,4]),(4,[0,5,8]),(5,[0,5,8,9]),(6,[0,5,8,9,28]),(7,[0,5,8,35]),(8,[2,3,4]),(9,[2,3,4]),(10,[9,48]),(11,[2,3,4]),(12,[9,51]),(13,[2,3,4]),(14,[2,3,4])]
def Qmj (y:Bool):D :=.p (bV y)
def Qs1:List (Nat×List Nat):=[(0,[0,1]),(1,[4]),(3000001,[])]
def Qqn (h0_0:(List Qag)) (h0_1:Int) (h0_2:Bool) (o1:Bool):St:=⟨[(4,.p (bV o1))],⟨[[.p (.sl false (h0_0.map Qaf)),.p (iV h0_1),.p (bV h0_2)]],[]⟩⟩
def Qfm (y:(List Qaa)×Int×Bool):D :=.p (.sl false (y.1.map Qab))
def Qlt:List (Nat×List Nat):=[(0,[0,1,2]),(1,[0,1,2,7]),(2,[0,1,2,7,27]),(3,[0,1,2,7,29]),(4,[0,1,2,7,8]),(5,[0,1,2,7,8,9]),(6,[0,1,2,7,8,9,45]),(7,[0,1,2,7]),(8,[0,1,2,7]),(9,[0,1,2,7,73]),(10,[6]),(11,[0,1,2,7]),(12,[0,1,2,7,80]),(13,[0,1,2,7]),(14,[0,1,2,7]),(15,[6]),(1000002,[0,1,2,7]),(3000002,[]),(3000006,[]),(3000009,[]),(9000005,[1,0,0,0]),(9000006,[5,0,0,0,6,0,0,0,7,0,0,0]),(9000007,[4,0,0,0,5,0,0,0,6,0,0,0,9,0,0,0,10,0,0,0,11,1,7,0]),(9000008,[4,0,0,0]),(9000014,[4,0,0,0])]
def Qqo (p1:Bool) (p2:Bool) (h0_0:(List Qag)) (v7:(List Qaa)) (h0_1_:Int) (h0_2_:Bool) (o4:Bool):St:=⟨[(0,.ptr 0 0),(1,.p (bV p1)),(2,.p (bV p2)),(7,.x 0 1 (.sl 38 7 (v7.map Qab))),(27,.p (bV o4))],⟨[[.p (.sl false (h0_0.map Qaf)),.p (iV h0_1_),.p (bV h0_2_)]],[1]⟩⟩
def Qqp (p1:Bool) (p2:Bool) (h0_0:(List Qag)) (v7:(List Qaa)) (x6:Qag×Int×Bool) (o7:Bool):St:=⟨[(0,.ptr 0 0),(1,.p (bV p1)),(2,.p (bV p2)),(7,.x 0 1 (.sl 38 7 (v7.map Qab))),(8,.p (sV x6.1.Text)),(9,.p (iV (wr ((v7.length:Int)-1)))),(45,.p (bV o7))],⟨[[.p (.sl false (h0_0.map Qaf)),.p (iV x6.2.1),.p (bV x6.2.2)]],[1]⟩⟩
def Qqq (p1:Bool) (p2:Bool) (h0_0:(List Qag)) (v7:(List Qaa)) (h0_1_:Int) (h0_2_:Bool) (o12:Bool):St:=⟨[(0,.ptr 0 0),(1,.p (bV p1)),(2,.p (bV p2)),(7,.x 0 1 (.sl 38 7 (v7.map Qab))),(73,.p (bV o12))],⟨[[.p (.sl false (h0_0.map Qaf)),.p (iV h0_1_),.p (bV h0_2_)]],[1]⟩⟩
def Qb8 (p1:Bool) (p2:Bool) (h0_0:(List Qag)) (v7:(List Qaa)) (h0_1_:Int) (h0_2_:Bool):St:=⟨[(0,.ptr 0 0),(1,.p (bV p1)),(2,.p (bV p2)),(7,.x 0 1 (.sl 38 7 (v7.map Qab)))],⟨[[.p (.sl false (h0_0.map Qaf)),.p (iV h0_1_),.p (bV h0_2_)]],[1]⟩⟩
def Qih (p1:Bool) (p2:Bool) (h0_0:(List Qag)) (y2:(List Qaa)×Int×Bool):St:=⟨[(7,.x 0 1 (.sl 38 7 (y2.1.map Qab)))],⟨[[.p (.sl false (h0_0.map Qaf)),.p (iV y2.2.1),.p (bV y2.2.2)]],[1]⟩⟩
def Qii (p1:Bool) (p2:Bool) (h0_0:(List Qag)) (y3:(List Qaa)×Int×Bool):St:=⟨[(6,.x 0 1 (.sl 38 7 (y3.1.map Qab)))],⟨[[.p (.sl false (h0_0.map Qaf)),.p (iV y3.2.1),.p (bV y3.2.2)]],[1]⟩⟩
def Qqr:Code:=((Qa2 (Tryz.f116.body.getD .skip)).getD 0 .skip)
def Qi4 (y:Qaa×Int×Bool):D :=.p (.agg [iV y.1.Kind,sV y.1.Name,sV y.1.Text,iV y.1.N,.sl false (y.1.L.map Qab),.sl false (y.1.Then.map Qab),.sl false (y.1.Else.map Qab)])
def Qmk:List (Nat×List Nat):=[(0,[0,2]),(1,[0,2,3]),(2,[0,2,3,7]),(3,[0,2,3]),(4,[0,2,3]),(5,[2]),(1000002,[0,2,3]),(5000004,[3,1005,1008]),(8000004,[2])]
def Qfx (h0_0:(List Qag)) (h0_1_:Int) (h0_2_:Bool) (h2_0:Int) (h2_1:(List UInt8)) (h2_2:(List UInt8)) (h2_3:Int) (h2_4:(List Qaa)) (h2_5:(List Qaa)) (h2_6:(List Qaa)):St:=⟨[(0,.ptr 0 0),(2,.ptr 1 0),(3,.ptr 2 0)],⟨[[.p (.sl false (h0_0.map Qaf)),.p (iV h0_1_),.p (bV h0_2_)],[.p (iV 0),.p (sV []),.p (sV []),.p (iV 0),.p (.sl true []),.p (.sl true []),.p (.sl true [])],[.p (iV h2_0),.p (sV h2_1),.p (sV h2_2),.p (iV h2_3),.p (.sl false (h2_4.map Qab)),.p (.sl false (h2_5.map Qab)),.p (.sl false (h2_6.map Qab))]],[]⟩⟩
def Qj3 (h0_0:(List Qag)) (o2:Int×Bool×Int×(List UInt8)×(List UInt8)×Int×(List Qaa)×(List Qaa)×(List Qaa)):St:=⟨[(2,.ptr 1 0),(3,.ptr 2 0)],⟨[[.p (.sl false (h0_0.map Qaf)),.p (iV o2.1),.p (bV o2.2.1)],[.p (iV 0),.p (sV []),.p (sV []),.p (iV 0),.p (.sl true []),.p (.sl true []),.p (.sl true [])],[.p (iV o2.2.2.1),.p (sV o2.2.2.2.1),.p (sV o2.2.2.2.2.1),.p (iV o2.2.2.2.2.2.1),.p (.sl false (o2.2.2.2.2.2.2.1.map Qab)),.p (.sl false (o2.2.2.2.2.2.2.2.1.map Qab)),.p (.sl false (o2.2.2.2.2.2.2.2.2.map Qab))]],[]⟩⟩
def Qrq:Code:=((Qa2 (Tryz.f162.body.getD .skip)).getD 0 .skip)
def Qex (y:Qaa×Int×Bool):D :=.p (.agg [iV y.1.Kind,sV y.1.Name,sV y.1.Text,iV y.1.N,.sl false (y.1.L.map Qab),.sl false (y.1.Then.map Qab),.sl false (y.1.Else.map Qab)])
def Qrr:List (Nat×List Nat):=[(0,[0,2]),(1,[0,2,7]),(2,[0,2]),(3,[0,2,3]),(4,[0,2,3]),(5,[0,2,3]),(6,[0,2,3,20]),(7,[0,2,3]),(8,[0,2,3]),(9,[2,3]),(10,[2]),(11,[0,2,34]),(12,[0,2,4]),(13,[0,2,4,37]),(14,[0,2,4]),(15,[0,2,4]),(16,[0,2,4]),(17,[0,2,4,46]),(18,[0,2,4]),(19,[0,2,4]),(20,[0,2,4]),(21,[0,2,4]),(22,[0,2,4]),(23,[2,4]),(24,[2]),(25,[0,2,5]),(26,[0,2,5,69]),(27,[0,2,5]),(28,[0,2,5]),(29,[0,2,5]),(30,[0,2,5]),(31,[2,5]),(32,[2]),(2006007,[]),(2013005,[]),(2017005,[]),(2026009,[]),(3000011,[])]
def Qpm (h0_0:(List Qag)) (x3:Qaa×Int×Bool) (x5:(List Qaa)×Int×Bool) (o6:Int×Bool×(List Qaa)):St:=⟨[(0,.ptr 0 0),(2,.ptr 1 0),(3,.ptr 2 0)],⟨[[.p (.sl false (h0_0.map Qaf)),.p (iV o6.1),.p (bV o6.2.1)],[.p (iV 0),.p (sV []),.p (sV []),.p (iV 0),.p (.sl true []),.p (.sl true []),.p (.sl true [])],[.p (iV 10),.p (sV []),.p (sV []),.p (iV 0),.p (.sl true ([x3.1].map Qab)),.p (.sl false (x5.1.map Qab)),.p (.sl false (o6.2.2.map Qab))]],[]⟩⟩
def Qpn (h0_0:(List Qag)) (h0_1:Int) (h0_2:Bool) (o11:Bool):St:=⟨[(0,.ptr 0 0),(2,.ptr 1 0),(34,.p (bV o11))],⟨[[.p (.sl false (h0_0.map Qaf)),.p (iV h0_1),.p (bV h0_2)],[.p (iV 0),.p (sV []),.p (sV []),.p (iV 0),.p (.sl true []),.p (.sl true []),.p (.sl true [])]],[]⟩⟩
def Qpo (h0_0:(List Qag)) (h0_1:Int) (h0_2:Bool) (o14:Int):St:=⟨[(0,.ptr 0 0),(2,.ptr 1 0),(4,.ptr 2 0)],⟨[[.p (.sl false (h0_0.map Qaf)),.p (iV h0_1),.p (bV h0_2)],[.p (iV 0),.p (sV []),.p (sV []),.p (iV 0),.p (.sl true []),.p (.sl true []),.p (.sl true [])],[.p (iV o14),.p (sV []),.p (sV []),.p (iV 0),.p (.sl true []),.p (.sl true []),.p (.sl true [])]],[]⟩⟩
def Qpp (h0_0:(List Qag)) (o14:Int) (x17:(List UInt8)×Int×Bool) (o18:Int×Bool):St:=⟨[(0,.ptr 0 0),(2,.ptr 1 0),(4,.ptr 2 0)],⟨[[.p (.sl false (h0_0.map Qaf)),.p (iV o18.1),.p (bV o18.2)],[.p (iV 0),.p (sV []),.p (sV []),.p (iV 0),.p (.sl true []),.p (.sl true []),.p (.sl true [])],[.p (iV o14),.p (sV x17.1),.p (sV []),.p (iV 0),.p (.sl true []),.p (.sl true []),.p (.sl true [])]],[]⟩⟩
def Qpq (h0_0:(List Qag)) (o27:Int×Bool×Int×(List UInt8)):St:=⟨[(0,.ptr 0 0),(2,.ptr 1 0),(5,.ptr 2 0)],⟨[[.p (.sl false (h0_0.map Qaf)),.p (iV o27.1),.p (bV o27.2.1)],[.p (iV 0),.p (sV []),.p (sV []),.p (iV 0),.p (.sl true []),.p (.sl true []),.p (.sl true [])],[.p (iV o27.2.2.1),.p (sV o27.2.2.2),.p (sV []),.p (iV 0),.p (.sl true []),.p (.sl true []),.p (.sl true [])]],[]⟩⟩
def Qml (_:Int×Bool):D :=.tup []
def Qs2:List (Nat×List Nat):=[(0,[])]
def Qpf (_:Int×Bool):D :=.tup []
def Qvc:List (Nat×List Nat):=[(0,[0,1]),(1,[0]),(2,[])]
def Qbq (y:Qaa×Int×Bool):D :=.p (.agg [iV y.1.Kind,sV y.1.Name,sV y.1.Text,iV y.1.N,.sl false (y.1.L.map Qab),.sl false (y.1.Then.map Qab),.sl false (y.1.Else.map Qab)])
def Qlu:List (Nat×List Nat):=[(0,[0,2]),(1,[0,2,7]),(2,[2]),(3,[0,2,13]),(4,[2]),(5,[0,2,19]),(6,[2]),(7,[2]),(8,[0,2,24]),(9,[2]),(10,[2]),(11,[0,2,29]),(12,[0,2]),(13,[0,2]),(14,[0,2,3]),(15,[2,3]),(16,[2]),(17,[0,2,4]),(18,[0,2,4,66]),(19,[2]),(20,[0,2,4]),(21,[0,2,4]),(22,[0,2,4,72]),(23,[2,4]),(24,[2]),(25,[0,2,4,5]),(26,[0,2,4,5,84]),(27,[0,2,4,5]),(28,[0,2,4,5]),(29,[0,2,4,5,95]),(30,[0,2,4,5,97]),(31,[0,2,4,5]),(32,[2,4]),(33,[2]),(1000026,[0,2,4,5]),(3000014,[]),(3000026,[]),(5000014,[17]),(5000028,[3,1001,1007]),(8000028,[2])]
def Qqs (h0_0:(List Qag)) (o13:Int×Bool×Int×(List UInt8)×Int×Int×Int):St:=⟨[(0,.ptr 0 0),(2,.ptr 1 0),(3,.ptr 2 0)],⟨[[.p (.sl false (h0_0.map Qaf)),.p (iV o13.1),.p (bV o13.2.1)],[.p (iV 0),.p (sV []),.p (sV []),.p (iV 0),.p (.sl true []),.p (.sl true []),.p (.sl true [])],[.p (iV o13.2.2.1),.p (sV o13.2.2.2.1),.p (iV o13.2.2.2.2.1),.p (iV o13.2.2.2.2.2.1),.p (iV o13.2.2.2.2.2.2)]],[]⟩⟩
def Qqt (h0_0:(List Qag)) (x21:(List UInt8)×Int×Bool) (v5:Int) (h0_1_:Int) (h0_2_:Bool) (h2_4:(List Qaa)) (o27:Bool):St:=⟨[(0,.ptr 0 0),(2,.ptr 1 0),(4,.ptr 2 0),(5,.p (iV v5)),(84,.p (bV o27))],⟨[[.p (.sl false (h0_0.map Qaf)),.p (iV h0_1_),.p (bV h0_2_)],[.p (iV 0),.p (sV []),.p (sV []),.p (iV 0),.p (.sl true []),.p (.sl true []),.p (.sl true [])],[.p (iV 6),.p (sV x21.1),.p (sV []),.p (iV 0),.own 0 38 7 (h2_4.map Qab),.p (.sl true []),.p (.sl true [])]],[(h2_4.map Qab).length]⟩⟩
def Qdx (h0_0:(List Qag)) (x21:(List UInt8)×Int×Bool) (v5:Int) (h0_1_:Int) (h0_2_:Bool) (h2_4:(List Qaa)):St:=⟨[(0,.ptr 0 0),(2,.ptr 1 0),(4,.ptr 2 0),(5,.p (iV v5))],⟨[[.p (.sl false (h0_0.map Qaf)),.p (iV h0_1_),.p (bV h0_2_)],[.p (iV 0),.p (sV []),.p (sV []),.p (iV 0),.p (.sl true []),.p (.sl true []),.p (.sl true [])],[.p (iV 6),.p (sV x21.1),.p (sV []),.p (iV 0),.own 0 38 7 (h2_4.map Qab),.p (.sl true []),.p (.sl true [])]],[(h2_4.map Qab).length]⟩⟩
def Qij (h0_0:(List Qag)) (x21:(List UInt8)×Int×Bool) (o26:Int×Bool×(List Qaa)):St:=⟨[(0,.ptr 0 0),(2,.ptr 1 0),(4,.ptr 2 0)],⟨[[.p (.sl false (h0_0.map Qaf)),.p (iV o26.1),.p (bV o26.2.1)],[.p (iV 0),.p (sV []),.p (sV []),.p (iV 0),.p (.sl true []),.p (.sl true []),.p (.sl true [])],[.p (iV 6),.p (sV x21.1),.p (sV []),.p (iV 0),.own 0 38 7 (o26.2.2.map Qab),.p (.sl true []),.p (.sl true [])]],[(o26.2.2.map Qab).length]⟩⟩
def Qqu:Code:=((Qa2 (Tryz.f173.body.getD .skip)).getD 0 .skip)
def Qdr (y:Bool):D :=.p (bV y)
def Qwi:List (Nat×List Nat):=[(0,[0,1]),(1,[4]),(3000001,[])]
def Qt6 (h0_0:(List Qag)) (h0_1:Int) (h0_2:Bool) (o1:Bool):St:=⟨[(4,.p (bV o1))],⟨[[.p (.sl false (h0_0.map Qaf)),.p (iV h0_1),.p (bV h0_2)]],[]⟩⟩
def Qnt (y:(List UInt8)×Int×Bool):D :=.p (sV y.1)
def Qt7:List (Nat×List Nat):=[(0,[0]),(1,[2]),(3000001,[]),(5000001,[17])]
def Qrs (h0_0:(List Qag)) (o1:(List UInt8)×Int×Bool):St:=⟨[(2,.p (sV o1.1))],⟨[[.p (.sl false (h0_0.map Qaf)),.p (iV o1.2.1),.p (bV o1.2.2)]],[]⟩⟩
def Qi5 (y:Qag×Int×Bool):D :=.p (.agg [iV y.1.Kind,sV y.1.Text,iV y.1.N,iV y.1.From,iV y.1.To])
def Qt8:List (Nat×List Nat):=[(0,[0,1,4]),(1,[0,4,12]),(2,[4]),(3,[4]),(4,[0,4]),(5,[4]),(3000001,[])]
def Qrt (h0_0:(List Qag)) (h0_1:Int) (h0_2:Bool) (o1:Bool):St:=⟨[(0,.ptr 0 0),(4,.ptr 1 0),(12,.p (bV o1))],⟨[[.p (.sl false (h0_0.map Qaf)),.p (iV h0_1),.p (bV h0_2)],[.p (iV 0),.p (sV []),.p (iV 0),.p (iV 0),.p (iV 0)]],[]⟩⟩
def Qnu (y:Bool):D :=.p (bV y)
def Qt9:List (Nat×List Nat):=[(0,[0,1]),(1,[4]),(3000001,[])]
def Qru (h0_0:(List Qag)) (h0_1:Int) (h0_2:Bool) (o1:Bool):St:=⟨[(4,.p (bV o1))],⟨[[.p (.sl false (h0_0.map Qaf)),.p (iV h0_1),.p (bV h0_2)]],[]⟩⟩
def Qcp (y:(List Qak)):D :=.x 0 1 (.sl 46 3 (y.map Qbc))
def Qh0:List (Nat×List Nat):=[(0,[0]),(1,[0,4]),(2,[2]),(3,[2]),(9000001,[1,0,0,0]),(9000003,[2,0,0,0])]
def Qrf (p0:(List UInt8)):Option (Int×Bool) :=
 need (p0.length<=9223372036854775807)>>=λ_ =>
 some (Qyb p0)
theorem Q4n:∀ (p0:(List UInt8)) (o:Int×Bool),Qrf p0=some o->PCall Tryz.prog 160 [sV p0] (Qvz o):=by
 intro p0 o h;unfold Qrf at h;obtain⟨h1,h⟩:=Q6w h;cases h;exact Qacq _ h1
def Qua (p0:Int):Option (Bool) :=
 ( if(p0==32) then
   some true
  else
   if(p0==9) then
    some true
   else
    if(p0==10) then
     some true
    else
     some (p0==13):Option (Bool))>>=λo1 =>
 some o1
theorem Q7z:∀ (p0:Int) (o:Bool),Qua p0=some o->PCall Tryz.prog 158 [nV .u8 p0] (Qs0 o):=by
 intro p0 o h;unfold Qua at h;refine PCall.ofY Q7r Tryz.func158 ?_;refine Qaj h (λo1 ho hk=>?_);refine Exists.intro (JP1 _ _ o1 .normal (Q0w )) (And.intro ?_ (Qa5 ?_))
 .have h:=ho;refine Qae h (λhb h=>?_) (λhb h=>?_)
  .refine bT ?_;refine bT ?_;exact JP1.a h (Le.ty 0 0)
  .refine Qae h (λhb h=>?_) (λhb h=>?_)
   .refine bT ?_;exact JP1.a h (Le.ty 0 0)
   .refine Qae h (λhb h=>?_) (λhb h=>?_)
    .exact JP1.a h (Le.ty 0 0)
    .exact JP1.a h (Le.ty 0 0)
 .have h:=hk;refine Qan (t:=Qs0) h ?_;exact .refl _
def Qey (p0:(List UInt8)) (v1:Int):Option (Int) :=
 ( if(decide (v1<(p0.length:Int))) then
   idx p0 v1>>=λx3 =>
   Qua (x3.toNat:Int)>>=λx4 =>
   some x4
  else
   some false:Option (Bool))>>=λo2 =>
 if o2 then
  Qey p0 (wr (v1+1))
 else
  some v1
 partial_fixpoint
theorem Qac1:∀ (p0:(List UInt8)),(∀ (v1:Int) (o1:Int),Qey p0 v1=some o1->TL (0,0) Tryz.prog 18 Qza (JP1 (0,0) 18 o1 (.exit 0) (Qpc p0)) (Qkp p0 v1)):=by
 intro p0;refine Qey.partial_correctness p0 _ ?_;intro Qey' iQey v1 o1 h;refine TL.round (Qaq mixed tbOk (lv:=Qt0) _ _ _ ?_);refine Qaj h (λo2 ho hk=>?_);refine Exists.intro (JP1 _ _ o2 .normal (Qy9 p0 v1)) (And.intro ?_ (Qa5 ?_))
 .have h:=ho;refine vrfl ?_;refine Qae h (λhb h=>?_) (λhb h=>?_)
  .refine Qdy h (λx3 hi h=>?_);refine Qas [nV .u8 (x3.toNat:Int)] Qs0 h (λx4 hy=>(Q7z (x3.toNat:Int) x4 hy)) (λx4 hy h=>?_);exact JP1.a h (Le.ty 0 0)
  .exact JP1.a h (Le.ty 0 0)
 .have h:=hk;refine Qae h (λhb h=>?_) (λhb h=>?_)
  .refine TL.le (τ := Qkp p0 (wr (v1+1))) ?_ ((iQey (wr (v1+1)) _ h));exact Le.ty 0 0
  .exact JP1.a h (Le.ty 0 0)
def Qi6 (p0:(List UInt8)) (p1:Int):Option (Int) :=
 (Qey p0 p1)>>=λo1 =>
 some o1
theorem Qub:∀ (p0:(List UInt8)) (p1:Int) (o:Int),Qi6 p0 p1=some o->PCall Tryz.prog 140 [sV p0,iV p1] (Qmh o):=by
 intro p0 p1 o h;unfold Qi6 at h;refine PCall.ofY Qt0 Tryz.func140 ?_;refine Qaj h (λo1 ho hk=>?_);refine Exists.intro (JP1 _ _ o1 (.exit 0) (Qpc p0)) (And.intro (Qk4 (τ := Qkp p0 p1) ?_ (TL.loop (Qac1 p0 p1 o1 ho))) (Qa5 ?_))
 .exact Le.ty 0 0
 have h:=hk;refine Qan (t:=Qmh) h ?_;exact .refl _
def Qi7 (p0:(List UInt8)) (p1:Int) (x1:UInt8) (v9:Int):Option (Unit⊕(Int×Int)) :=
 if(decide (v9<([46,40,41,44,61].length:Int))) then
  idx ([46,40,41,44,61]:List UInt8) v9>>=λx6 =>
  if((x6.toNat:Int)==(x1.toNat:Int)) then
   idx ([7,8,9,10,11]:List Int) v9>>=λx7 =>
   some (.inr (x7,x7))
  else
   Qi7 p0 p1 x1 (wr (v9+1))
 else
  some (.inl ())
 partial_fixpoint
theorem Qagd:∀ (p0:(List UInt8)) (p1:Int) (x1:UInt8),(∀ (v9:Int) (o3:Unit⊕(Int×Int)),Qi7 p0 p1 x1 v9=some o3->TL (0,0) Tryz.prog 133 Q7s (JP2 (0,0) 133 o3 (.exit 0) (Qt1 p0 p1 x1) .ret (Qt2 p0 p1 x1)) (Qop p0 p1 x1 v9)):=by
 intro p0 p1 x1;refine Qi7.partial_correctness p0 p1 x1 _ ?_;intro Qi7' iQi7 v9 o3 h;refine TL.round (Qaq mixed tbOk (lv:=Qre) _ _ _ ?_);refine vrfl ?_;refine Qae h (λhb h=>?_) (λhb h=>?_)
 .refine Qdy h (λx6 hi h=>?_);refine Qae h (λhb h=>?_) (λhb h=>?_)
  .refine Qbu (l:=[7,8,9,10,11]) (c:=cInt) (c' := cInt) h (λ_=>rfl) (λ_=>rfl) (by decide) (λx7 hi h=>?_);exact JP2.b h (Le.ty 2 0)
  .refine TL.le (τ := Qop p0 p1 x1 (wr (v9+1))) ?_ ((iQi7 (wr (v9+1)) _ h));exact Le.ty 2 0
 .exact JP2.a h (Le.ty 2 0)
def Qi8 (p0:(List UInt8)) (p1:Int) (v12:Int):Option (Int) :=
 ( if(decide (v12<(p0.length:Int))) then
   idx p0 v12>>=λx12 =>
   Qe9 (x12.toNat:Int)>>=λx13 =>
   if x13 then
    some true
   else
    idx p0 v12>>=λx14 =>
    Qe8 (x14.toNat:Int)>>=λx15 =>
    if x15 then
     some true
    else
     idx p0 v12>>=λx16 =>
     some ((x16.toNat:Int)==95)
  else
   some false:Option (Bool))>>=λo11 =>
 if o11 then
  Qi8 p0 p1 (wr (v12+1))
 else
  some v12
 partial_fixpoint
theorem Qage:∀ (p0:(List UInt8)) (p1:Int),(∀ (v12:Int) (o10:Int),Qi8 p0 p1 v12=some o10->TL (0,0) Tryz.prog 133 Q7u (JP1 (0,0) 133 o10 (.exit 2) (Qt3 p0 p1)) (Qoq p0 p1 v12)):=by
 intro p0 p1;refine Qi8.partial_correctness p0 p1 _ ?_;intro Qi8' iQi8 v12 o10 h;refine TL.round (Qaq mixed tbOk (lv:=Qre) _ _ _ ?_);refine Qaj h (λo11 ho hk=>?_);refine Exists.intro (JP1 _ _ o11 .normal (Q7t p0 p1 v12)) (And.intro ?_ (Qa5 ?_))
 .have h:=ho;refine vrfl ?_;refine Qae h (λhb h=>?_) (λhb h=>?_)
  .refine Qdy h (λx12 hi h=>?_);refine Qas [nV .u8 (x12.toNat:Int)] Qit h (λx13 hy=>(Qmd (x12.toNat:Int) x13 hy)) (λx13 hy h=>?_);refine Qae h (λhb h=>?_) (λhb h=>?_)
   .refine bT ?_;exact JP1.a h (Le.ty 2 0)
   .refine Qdy h (λx14 hi h=>?_);refine Qas [nV .u8 (x14.toNat:Int)] Qis h (λx15 hy=>(Qmc (x14.toNat:Int) x15 hy)) (λx15 hy h=>?_);refine Qae h (λhb h=>?_) (λhb h=>?_)
    .exact JP1.a h (Le.ty 2 0)
    .refine Qdy h (λx16 hi h=>?_);exact JP1.a h (Le.ty 2 0)
  .exact JP1.a h (Le.ty 2 0)
 .have h:=hk;refine Qae h (λhb h=>?_) (λhb h=>?_)
  .refine TL.le (τ := Qoq p0 p1 (wr (v12+1))) ?_ ((iQi8 (wr (v12+1)) _ h));exact Le.ty 2 0
  .exact JP1.a h (Le.ty 2 0)
def Qi9 (p0:(List UInt8)) (p1:Int) (v12:Int):Option (Int) :=
 ( if(decide (v12<(p0.length:Int))) then
   idx p0 v12>>=λx24 =>
   Qe8 (x24.toNat:Int)>>=λx25 =>
   some x25
  else
   some false:Option (Bool))>>=λo23 =>
 if o23 then
  Qi9 p0 p1 (wr (v12+1))
 else
  some v12
 partial_fixpoint
theorem Qagf:∀ (p0:(List UInt8)) (p1:Int),(∀ (v12:Int) (o22:Int),Qi9 p0 p1 v12=some o22->TL (0,0) Tryz.prog 133 Q7x (JP1 (0,0) 133 o22 (.exit 4) (Qt4 p0 p1)) (Qor p0 p1 v12)):=by
 intro p0 p1;refine Qi9.partial_correctness p0 p1 _ ?_;intro Qi9' iQi9 v12 o22 h;refine TL.round (Qaq mixed tbOk (lv:=Qre) _ _ _ ?_);refine Qaj h (λo23 ho hk=>?_);refine Exists.intro (JP1 _ _ o23 .normal (Q7w p0 p1 v12)) (And.intro ?_ (Qa5 ?_))
 .have h:=ho;refine vrfl ?_;refine Qae h (λhb h=>?_) (λhb h=>?_)
  .refine Qdy h (λx24 hi h=>?_);refine Qas [nV .u8 (x24.toNat:Int)] Qis h (λx25 hy=>(Qmc (x24.toNat:Int) x25 hy)) (λx25 hy h=>?_);exact JP1.a h (Le.ty 2 0)
  .exact JP1.a h (Le.ty 2 0)
 .have h:=hk;refine Qae h (λhb h=>?_) (λhb h=>?_)
  .refine TL.le (τ := Qor p0 p1 (wr (v12+1))) ?_ ((iQi9 (wr (v12+1)) _ h));exact Le.ty 2 0
  .exact JP1.a h (Le.ty 2 0)
def Qc0 (p0:(List UInt8)) (v1:Int) (v6:(List UInt8)):Option (Unit⊕((List UInt8)×Int)) :=
 if(decide (v1<(p0.length:Int))) then
  idx p0 v1>>=λx4 =>
  if((x4.toNat:Int)==34) then
   some (.inr (v6,(wr (v1+1))))
  else
   idx p0 v1>>=λx5 =>
   if((x5.toNat:Int)==92) then
    if((wr (v1+1))==(p0.length:Int)) then
     some (.inr ([],(-1)))
    else
     ( idx p0 (wr (v1+1))>>=λx7 =>
      some (x7.toNat:Int):Option (Int))>>=λo6 =>
     if(o6==110) then
      need (v6.length+[10].length<=9223372036854775807)>>=λ_ =>
      Qc0 p0 (wr (v1+2)) (v6++[10])
     else
      if(o6==116) then
       need (v6.length+[9].length<=9223372036854775807)>>=λ_ =>
       Qc0 p0 (wr (v1+2)) (v6++[9])
      else
       ( if(o6==34) then
         some true
        else
         some (o6==92):Option (Bool))>>=λo8 =>
       if o8 then
        cutL p0 (wr (v1+1)) (wr (v1+2))>>=λx9 =>
        need (v6.length+x9.length<=9223372036854775807)>>=λ_ =>
        Qc0 p0 (wr (v1+2)) (v6++x9)
       else
        some (.inr ([],(-1)))
   else
    Qk0 p0 v1>>=λx10 =>
    ( if(x10.1==10) then
      some true
     else
      if(x10.1==13) then
       some true
      else
       if(x10.1==65533) then
        some (x10.2==1)
       else
        some false:Option (Bool))>>=λo11 =>
    if o11 then
     some (.inr ([],(-1)))
    else
     cutL p0 v1 (wr (v1+x10.2))>>=λx12 =>
     need (v6.length+x12.length<=9223372036854775807)>>=λ_ =>
     Qc0 p0 (wr (v1+x10.2)) (v6++x12)
 else
  some (.inl ())
 partial_fixpoint
theorem Qac2:∀ (p0:(List UInt8)),(∀ (v1:Int) (v6:(List UInt8)) (o1:Unit⊕((List UInt8)×Int)),Qc0 p0 v1 v6=some o1->TL (0,0) Tryz.prog 91 Qzf (JP2 (0,0) 91 o1 (.exit 0) (Qpd p0) .ret (Qpe p0)) (Qd0 p0 v1 v6)):=by
 intro p0;refine Qc0.partial_correctness p0 _ ?_;intro Qc0' iQc0 v1 v6 o1 h;refine TL.round (Qaq mixed tbOk (lv:=Qt5) _ _ _ ?_);refine vrfl ?_;refine Qae h (λhb h=>?_) (λhb h=>?_)
 .refine Qdy h (λx4 hi h=>?_);refine Qae h (λhb h=>?_) (λhb h=>?_)
  .exact JP2.b h (Le.ty 0 0)
  .refine Qdy h (λx5 hi h=>?_);refine Qae h (λhb h=>?_) (λhb h=>?_)
   .refine vrfl ?_;refine Qae h (λhb h=>?_) (λhb h=>?_)
    .exact JP2.b h (Le.ty 0 0)
    .refine Qaj h (λo6 ho hk=>?_);refine Exists.intro (JP1 _ _ o6 .normal (Qzc p0 v1 v6)) (And.intro ?_ (Qa5 ?_))
     .have h:=ho;refine Qdy h (λx7 hi h=>?_);exact JP1.a h (Le.ty 0 0)
     .have h:=hk;refine Qae h (λhb h=>?_) (λhb h=>?_)
      .refine Qx5 h (λh=>?_);refine TL.le (τ := Qd0 p0 (wr (v1+2)) (v6++[10])) ?_ ((iQc0 (wr (v1+2)) (v6++[10]) _ h));exact Le.ty 0 0
      .refine Qae h (λhb h=>?_) (λhb h=>?_)
       .refine Qx5 h (λh=>?_);refine TL.le (τ := Qd0 p0 (wr (v1+2)) (v6++[9])) ?_ ((iQc0 (wr (v1+2)) (v6++[9]) _ h));exact Le.ty 0 0
       .refine Qaj h (λo8 ho hk=>?_);refine Exists.intro (JP1 _ _ o8 .normal (Qzd p0 v1 v6)) (And.intro ?_ (Qa5 ?_))
        .have h:=ho;refine Qae h (λhb h=>?_) (λhb h=>?_)
         .exact JP1.a h (Le.ty 0 0)
         .exact JP1.a h (Le.ty 0 0)
        .have h:=hk;refine Qae h (λhb h=>?_) (λhb h=>?_)
         .refine Qmr (some (wr (v1+1))) (some (wr (v1+2))) h (λx9 hi h=>?_);refine Qx5 h (λh=>?_);refine TL.le (τ := Qd0 p0 (wr (v1+2)) (v6++x9)) ?_ ((iQc0 (wr (v1+2)) (v6++x9) _ h));exact Le.ty 0 0
         .exact JP2.b h (Le.ty 0 0)
   .refine Qas [sV p0,iV v1] Qna h (λx10 hy=>(Q9o p0 v1 x10 hy)) (λx10 hy h=>?_);refine Qaj h (λo11 ho hk=>?_);refine Exists.intro (JP1 _ _ o11 .normal (Qze p0 v1 v6 x10)) (And.intro ?_ (Qa5 ?_))
    .have h:=ho;refine Qae h (λhb h=>?_) (λhb h=>?_)
     .refine bT ?_;exact JP1.a h (Le.ty 0 0)
     .refine Qae h (λhb h=>?_) (λhb h=>?_)
      .exact JP1.a h (Le.ty 0 0)
      .refine Qae h (λhb h=>?_) (λhb h=>?_)
       .exact JP1.a h (Le.ty 0 0)
       .exact JP1.a h (Le.ty 0 0)
    .have h:=hk;refine Qae h (λhb h=>?_) (λhb h=>?_)
     .exact JP2.b h (Le.ty 0 0)
     .refine Qmr (some v1) (some (wr (v1+x10.2))) h (λx12 hi h=>?_);refine Qx5 h (λh=>?_);refine TL.le (τ := Qd0 p0 (wr (v1+x10.2)) (v6++x12)) ?_ ((iQc0 (wr (v1+x10.2)) (v6++x12) _ h));exact Le.ty 0 0
 .exact JP2.a h (Le.ty 0 0)
def Qk8 (p0:(List UInt8)) (p1:Int):Option ((List UInt8)×Int) :=
 (Qc0 p0 (wr (p1+1)) [])>>=λo1 =>
 match o1 with
 | .inl y2 =>
  some ([],(-1))
 | .inr y3 =>
  some (y3.1,y3.2)
theorem Q4o:∀ (p0:(List UInt8)) (p1:Int) (o:(List UInt8)×Int),Qk8 p0 p1=some o->PCall Tryz.prog 159 [sV p0,iV p1] (Qmi o):=by
 intro p0 p1 o h;unfold Qk8 at h;refine PCall.ofY Qt5 Tryz.func159 ?_;refine Qaj h (λo1 ho hk=>?_);refine Exists.intro (JP2 _ _ o1 (.exit 0) (Qpd p0) .ret (Qpe p0)) (And.intro (Qk4 (τ := Qd0 p0 (wr (p1+1)) []) ?_ (TL.loop (Qac2 p0 (wr (p1+1)) [] o1 ho))) (Qke (λy2 hy=>?_) (λy3 hy=>?_)))
 .exact Le.ty 0 0
 .have h:=(by rw[hy] at hk; exact hk);refine Qan (t:=Qmi) h ?_;exact .refl _
 .have h:=(by rw[hy] at hk; exact hk);refine Qan (t:=Qmi) h ?_;exact .refl _
def Qvd (p0:(List UInt8)) (p1:Int):Option (Qag×Bool) :=
 idx p0 p1>>=λx1 =>
 Qei p0 [125,125] p1>>=λx2 =>
 if x2 then
  some ((Qag.mk 3 [] 0 p1 (wr (p1+2))),true)
 else
  (Qi7 p0 p1 x1 0)>>=λo3 =>
  match o3 with
  | .inl y4 =>
   if((x1.toNat:Int)==34) then
    Qk8 p0 p1>>=λx8 =>
    some ((Qag.mk 5 x8.1 0 p1 x8.2),(decide (x8.2>0)))
   else
    Qe9 (x1.toNat:Int)>>=λx9 =>
    if x9 then
     (Qi8 p0 p1 (wr (p1+1)))>>=λo10 =>
     cutL p0 p1 o10>>=λx17 =>
     cutL p0 p1 o10>>=λx18 =>
     Qgu x18>>=λx19 =>
     some ((Qag.mk 4 x17 0 p1 o10),x19)
    else
     ( if((x1.toNat:Int)==45) then
       some true
      else
       Qe8 (x1.toNat:Int)>>=λx21 =>
       some x21:Option (Bool))>>=λo20 =>
     if o20 then
      (Qi9 p0 p1 (wr (p1+1)))>>=λo22 =>
      cutL p0 p1 o22>>=λx26 =>
      Qrf x26>>=λx27 =>
      some ((Qag.mk 6 [] x27.1 p1 o22),x27.2)
     else
      some ((Qag.mk 0 [] 0 p1 (wr (p1+1))),false)
  | .inr y5 =>
   some ((Qag.mk y5.1 [] 0 p1 (wr (p1+1))),true)
theorem Qac3:∀ (p0:(List UInt8)) (p1:Int) (o:Qag×Bool),Qvd p0 p1=some o->PCall Tryz.prog 142 [sV p0,iV p1] (Qj2 o):=by
 intro p0 p1 o h;unfold Qvd at h;refine PCall.ofY Qre Tryz.func142 ?_;refine Qdy h (λx1 hi h=>?_);refine Qas [sV p0,sV [125,125],iV p1] Qjn h (λx2 hy=>(Qoi p0 [125,125] p1 x2 hy)) (λx2 hy h=>?_);refine Qae h (λhb h=>?_) (λhb h=>?_)
 .refine Qan (t:=Qj2) h ?_;exact .refl _
 .refine Qaj h (λo3 ho hk=>?_);refine Exists.intro (JP2 _ _ o3 (.exit 0) (Qt1 p0 p1 x1) .ret (Qt2 p0 p1 x1)) (And.intro (Qk4 (τ := Qop p0 p1 x1 0) ?_ (TL.loop (Qagd p0 p1 x1 0 o3 ho))) (Qke (λy4 hy=>?_) (λy5 hy=>?_)))
  .exact Le.ty 2 0
  .have h:=(by rw[hy] at hk; exact hk);refine Qae h (λhb h=>?_) (λhb h=>?_)
   .refine Qas [sV p0,iV p1] Qmi h (λx8 hy=>(Q4o p0 p1 x8 hy)) (λx8 hy h=>?_);refine Qan (t:=Qj2) h ?_;exact .refl _
   .refine Qas [nV .u8 (x1.toNat:Int)] Qit h (λx9 hy=>(Qmd (x1.toNat:Int) x9 hy)) (λx9 hy h=>?_);refine Qae h (λhb h=>?_) (λhb h=>?_)
    .refine Qaj h (λo10 ho hk=>?_);refine Exists.intro (JP1 _ _ o10 (.exit 2) (Qt3 p0 p1)) (And.intro (Qk4 (τ := Qoq p0 p1 (wr (p1+1))) ?_ (TL.loop (Qage p0 p1 (wr (p1+1)) o10 ho))) (Qa5 ?_))
     .exact Le.ty 2 0
     have h:=hk;refine And.intro (by decide +kernel) (And.intro rfl ?_);refine Qmr (some p1) (some o10) h (λx17 hi h=>?_);refine Qmr (some p1) (some o10) h (λx18 hi h=>?_);refine Qda [sV x18] Qir h (λx19 hy=>(Qsr x18 x19 hy)) (λx19 hy h=>?_);refine Qan (t:=Qj2) h ?_;exact .refl _
    .refine Qaj h (λo20 ho hk=>?_);refine Exists.intro (JP1 _ _ o20 .normal (Q7v p0 p1)) (And.intro ?_ (Qa5 ?_))
     .have h:=ho;refine Qae h (λhb h=>?_) (λhb h=>?_)
      .exact JP1.a h (Le.ty 2 0)
      .refine Qas [nV .u8 (x1.toNat:Int)] Qis h (λx21 hy=>(Qmc (x1.toNat:Int) x21 hy)) (λx21 hy h=>?_);exact JP1.a h (Le.ty 2 0)
     .have h:=hk;refine Qae h (λhb h=>?_) (λhb h=>?_)
      .refine Qaj h (λo22 ho hk=>?_);refine Exists.intro (JP1 _ _ o22 (.exit 4) (Qt4 p0 p1)) (And.intro (Qk4 (τ := Qor p0 p1 (wr (p1+1))) ?_ (TL.loop (Qagf p0 p1 (wr (p1+1)) o22 ho))) (Qa5 ?_))
       .exact Le.ty 2 0
       have h:=hk;refine Qmr (some p1) (some o22) h (λx26 hi h=>?_);refine Qas [sV x26] Qvz h (λx27 hy=>(Q4n x26 x27 hy)) (λx27 hy h=>?_);refine Qan (t:=Qj2) h ?_;exact .refl _
      .refine Qan (t:=Qj2) h ?_;exact .refl _
  .have h:=(by rw[hy] at hk; exact hk);refine Qan (t:=Qj2) h ?_;exact .refl _
def Qez (p0:(List UInt8)) (v5_:(List Qag)) (v6_:Int):Option (((List Qag)×Int)⊕Int) :=
 Qi6 p0 v6_>>=λx16 =>
 if(x16==(p0.length:Int)) then
  some (.inr x16)
 else
  Qvd p0 x16>>=λx17 =>
  if(!x17.2) then
   some (.inr x16)
  else
   appL 48 v5_ [x17.1]>>=λx18 =>
   if(x17.1.Kind==3) then
    some (.inl (x18,x17.1.To))
   else
    Qez p0 x18 x17.1.To
 partial_fixpoint
theorem Qac4:∀ (p0:(List UInt8)),(∀ (v5_:(List Qag)) (v6_:Int) (o13:((List Qag)×Int)⊕Int),Qez p0 v5_ v6_=some o13->TL (0,0) Tryz.prog 83 Qy7 (JP2 (0,0) 83 o13 (.exit 2) (Qo8 p0) .ret (Qo9 p0)) (Qkn p0 v5_ v6_)):=by
 intro p0;refine Qez.partial_correctness p0 _ ?_;intro Qez' iQez v5_ v6_ o13 h;refine TL.round (Qaq mixed tbOk (lv:=Qoo) _ _ _ ?_);refine Qas [sV p0,iV v6_] Qmh h (λx16 hy=>(Qub p0 v6_ x16 hy)) (λx16 hy h=>?_);refine vrfl ?_;refine Qae h (λhb h=>?_) (λhb h=>?_)
 .exact JP2.b h (Le.ty 0 0)
 .refine Qas [sV p0,iV x16] Qj2 h (λx17 hy=>(Qac3 p0 x16 x17 hy)) (λx17 hy h=>?_);refine Qae h (λhb h=>?_) (λhb h=>?_)
  .exact JP2.b h (Le.ty 0 0)
  .refine Qms (a:=v5_) (b:=[x17.1]) (c:=Qaf) h (.refl _) (λ_=>rfl) rfl (λx18 hi h=>?_);refine Qae h (λhb h=>?_) (λhb h=>?_)
   .exact JP2.a h (Le.ty 0 1)
   .refine TL.le (τ := Qkn p0 x18 x17.1.To) ?_ ((iQez x18 x17.1.To _ h));exact Le.ty 0 1
def Qg4 (p0:(List UInt8)) (p1:(List UInt8)) (v2:Int):Option (Int) :=
 ( if(decide (v2<(p0.length:Int))) then
   Qei p0 p1 v2>>=λx3 =>
   some (!x3)
  else
   some false:Option (Bool))>>=λo2 =>
 if o2 then
  Qg4 p0 p1 (wr (v2+1))
 else
  some v2
 partial_fixpoint
theorem Qafw:∀ (p0:(List UInt8)) (p1:(List UInt8)),(∀ (v2:Int) (o1:Int),Qg4 p0 p1 v2=some o1->TL (0,0) Tryz.prog 21 Q4m (JP1 (0,0) 21 o1 (.exit 0) (Qse p0 p1)) (Qm3 p0 p1 v2)):=by
 intro p0 p1;refine Qg4.partial_correctness p0 p1 _ ?_;intro Qg4' iQg4 v2 o1 h;refine TL.round (Qaq mixed tbOk (lv:=Qzb) _ _ _ ?_);refine Qaj h (λo2 ho hk=>?_);refine Exists.intro (JP1 _ _ o2 .normal (Q4l p0 p1 v2)) (And.intro ?_ (Qa5 ?_))
 .have h:=ho;refine vrfl ?_;refine Qae h (λhb h=>?_) (λhb h=>?_)
  .refine Qas [sV p0,sV p1,iV v2] Qjn h (λx3 hy=>(Qoi p0 p1 v2 x3 hy)) (λx3 hy h=>?_);exact JP1.a h (Le.ty 0 0)
  .exact JP1.a h (Le.ty 0 0)
 .have h:=hk;refine Qae h (λhb h=>?_) (λhb h=>?_)
  .refine TL.le (τ := Qm3 p0 p1 (wr (v2+1))) ?_ ((iQg4 (wr (v2+1)) _ h));exact Le.ty 0 0
  .exact JP1.a h (Le.ty 0 0)
def Qos (p0:(List UInt8)) (p1:(List UInt8)) (p2:Int):Option (Int) :=
 (Qg4 p0 p1 p2)>>=λo1 =>
 some o1
theorem Qzg:∀ (p0:(List UInt8)) (p1:(List UInt8)) (p2:Int) (o:Int),Qos p0 p1 p2=some o->PCall Tryz.prog 139 [sV p0,sV p1,iV p2] (Qrd o):=by
 intro p0 p1 p2 o h;unfold Qos at h;refine PCall.ofY Qzb Tryz.func139 ?_;refine Qaj h (λo1 ho hk=>?_);refine Exists.intro (JP1 _ _ o1 (.exit 0) (Qse p0 p1)) (And.intro (Qk4 (τ := Qm3 p0 p1 p2) ?_ (TL.loop (Qafw p0 p1 p2 o1 ho))) (Qa5 ?_))
 .exact Le.ty 0 0
 have h:=hk;refine Qan (t:=Qrd) h ?_;exact .refl _
def Qe0 (p0:(List UInt8)) (v5:(List Qag)) (v6:Int):Option ((List Qag)⊕((List Qag)×Int×Int)) :=
 if(decide (v6<(p0.length:Int))) then
  Qos p0 [123,123] v6>>=λx4 =>
  ( if(decide (x4>v6)) then
    cutL p0 v6 x4>>=λx6 =>
    appL 48 v5 [(Qag.mk 1 x6 0 v6 x4)]>>=λx7 =>
    some x7
   else
    some v5:Option ((List Qag)))>>=λo5 =>
  if(x4==(p0.length:Int)) then
   some (.inr (o5,0,0))
  else
   appL 48 o5 ([(Qag.mk 2 [] 0 x4 (wr (x4+2)))])>>=λx8 =>
   Qi6 p0 (wr (x4+2))>>=λx9 =>
   ( Qei p0 [35] x9>>=λx11 =>
    if x11 then
     Qos p0 [125,125] x9>>=λx12 =>
     some x12
    else
     some x9:Option (Int))>>=λo10 =>
   (Qez p0 x8 o10)>>=λo13 =>
   match o13 with
   | .inl y14 =>
    Qe0 p0 y14.1 y14.2
   | .inr y15 =>
    some (.inr ([],y15,7))
 else
  some (.inl v5)
 partial_fixpoint
theorem Qac5:∀ (p0:(List UInt8)),(∀ (v5:(List Qag)) (v6:Int) (o1:(List Qag)⊕((List Qag)×Int×Int)),Qe0 p0 v5 v6=some o1->TL (0,0) Tryz.prog 83 Qy8 (JP2 (0,0) 83 o1 (.exit 0) (Qpa p0) .ret (Qpb p0)) (Qko p0 v5 v6)):=by
 intro p0;refine Qe0.partial_correctness p0 _ ?_;intro Qe0' iQe0 v5 v6 o1 h;refine TL.round (Qaq mixed tbOk (lv:=Qoo) _ _ _ ?_);refine vrfl ?_;refine Qae h (λhb h=>?_) (λhb h=>?_)
 .refine Qas [sV p0,sV [123,123],iV v6] Qrd h (λx4 hy=>(Qzg p0 [123,123] v6 x4 hy)) (λx4 hy h=>?_);refine Qaj h (λo5 ho hk=>?_);refine Exists.intro (JP1 _ _ o5 .normal (Qy5 p0 x4)) (And.intro ?_ (Qa5 ?_))
  .have h:=ho;refine Qae h (λhb h=>?_) (λhb h=>?_)
   .refine Qmr (some v6) (some x4) h (λx6 hi h=>?_);refine Qms (a:=v5) (b:=[(Qag.mk 1 x6 0 v6 x4)]) (c:=Qaf) h (.refl _) (λ_=>rfl) rfl (λx7 hi h=>?_);exact JP1.a h (Le.ty 0 1)
   .exact JP1.a h (Le.ty 0 1)
  .have h:=hk;refine vrfl ?_;refine Qae h (λhb h=>?_) (λhb h=>?_)
   .exact JP2.b h (Le.ty 0 0)
   .refine Qms (a:=o5) (b:=[(Qag.mk 2 [] 0 x4 (wr (x4+2)))]) (c:=Qaf) h (.refl _) (λ_=>rfl) rfl (λx8 hi h=>?_);refine Qas [sV p0,iV (wr (x4+2))] Qmh h (λx9 hy=>(Qub p0 (wr (x4+2)) x9 hy)) (λx9 hy h=>?_);refine Qaj h (λo10 ho hk=>?_);refine Exists.intro (JP1 _ _ o10 .normal (Qy6 p0 x8)) (And.intro ?_ (Qa5 ?_))
    .have h:=ho;refine Qas [sV p0,sV [35],iV x9] Qjn h (λx11 hy=>(Qoi p0 [35] x9 x11 hy)) (λx11 hy h=>?_);refine Qae h (λhb h=>?_) (λhb h=>?_)
     .refine Qas [sV p0,sV [125,125],iV x9] Qrd h (λx12 hy=>(Qzg p0 [125,125] x9 x12 hy)) (λx12 hy h=>?_);exact JP1.a h (Le.ty 0 1)
     .exact JP1.a h (Le.ty 0 1)
    .have h:=hk;refine Qaj h (λo13 ho hk=>?_);refine Exists.intro (JP2 _ _ o13 (.exit 2) (Qo8 p0) .ret (Qo9 p0)) (And.intro (Qk4 (τ := Qkn p0 x8 o10) ?_ (TL.loop (Qac4 p0 x8 o10 o13 ho))) (Qke (λy14 hy=>?_) (λy15 hy=>?_)))
     .exact Le.ty 0 1
     .have h:=(by rw[hy] at hk; exact hk);refine TL.le (τ := Qko p0 y14.1 y14.2) ?_ ((iQe0 y14.1 y14.2 _ h));exact Le.ty 0 1
     .have h:=(by rw[hy] at hk; exact hk);exact JP2.b h (Le.tow 0 0 rfl (.cons rfl (.p (.not)) (.cons rfl (.refl _) (.cons rfl (.refl _) (.nil)))) (.refl _) rfl)
 .exact JP2.a h (Le.ty 0 1)
def Qk9 (p0:(List UInt8)):Option ((List Qag)×Int×Int) :=
 if(decide ((p0.length:Int)>65536)) then
  some ([],0,6)
 else
  (Qe0 p0 [] 0)>>=λo1 =>
  match o1 with
  | .inl y2 =>
   some (y2,0,0)
  | .inr y3 =>
   some (y3.1,y3.2.1,y3.2.2)
theorem Q4p:∀ (p0:(List UInt8)) (o:(List Qag)×Int×Int),Qk9 p0=some o->PCall Tryz.prog 115 [sV p0] (Qj1 o):=by
 intro p0 o h;unfold Qk9 at h;refine PCall.ofY Qoo Tryz.func115 ?_;refine vrfl ?_;refine Qae h (λhb h=>?_) (λhb h=>?_)
 .refine Qan (t:=Qj1) h ?_;exact .tup (xs:=[.sl true [],iV 0,iV 6]) (ys:=[.sl false [],iV 0,iV 6]) (.cons (.not) (.cons (.refl _) (.cons (.refl _) (.nil))))
 .refine Qaj h (λo1 ho hk=>?_);refine Exists.intro (JP2 _ _ o1 (.exit 0) (Qpa p0) .ret (Qpb p0)) (And.intro (Qk4 (τ := Qko p0 [] 0) ?_ (TL.loop (Qac5 p0 [] 0 o1 ho))) (Qke (λy2 hy=>?_) (λy3 hy=>?_)))
  .exact Le.trans (τ := ⟨[(0,.p (sV p0)),(5,.p (.sl true [])),(6,.p (iV 0))],⟨[],[]⟩⟩) (Le.ty 0 0) ((Le.own 5 147 5 rfl Q9e).trans (Le.ty 0 1))
  .have h:=(by rw[hy] at hk; exact hk);refine Qan (t:=Qj1) h ?_;exact .refl _
  .have h:=(by rw[hy] at hk; exact hk);refine Qan (t:=Qj1) h ?_;exact .refl _
def Qap (p1:Int) (h0_0:(List Qag)) (h0_1:Int) (h0_2:Bool):Option (Bool) :=
 ( if(!h0_2) then
   if(decide (h0_1<(h0_0.length:Int))) then
    idx h0_0 h0_1>>=λx2 =>
    some (x2.Kind==p1)
   else
    some false
  else
   some false:Option (Bool))>>=λo1 =>
 some o1
theorem Qav:∀ (p1:Int) (h0_0:(List Qag)) (h0_1:Int) (h0_2:Bool) (o:Bool),Qap p1 h0_0 h0_1 h0_2=some o->CallOK Tryz.prog 143 [.ptr 0 0,.p (iV p1)] ⟨[[.p (.sl false (h0_0.map Qaf)),.p (iV h0_1),.p (bV h0_2)]],[]⟩ (Qdr o) ⟨[[.p (.sl false (h0_0.map Qaf)),.p (iV h0_1),.p (bV h0_2)]],[]⟩:=by
 intro p1 h0_0 h0_1 h0_2 o h;unfold Qap at h;refine CallOK.ofB mixed tbOk Qwi Tryz.func143 rfl (by kernel_rfl) (Nat.le_of_ble_eq_true rfl) rfl rfl rfl ?_;refine Qaj h (λo1 ho hk=>?_);refine Exists.intro (JP1 _ _ o1 .normal (Qt6 h0_0 h0_1 h0_2)) (And.intro ?_ (Qa5 ?_))
 .have h:=ho;refine And.intro (by decide +kernel) (And.intro rfl ?_);refine Qae h (λhb h=>?_) (λhb h=>?_)
  .refine view (Qcz _ _) rfl ?_;refine Qae h (λhb h=>?_) (λhb h=>?_)
   .refine Qbu (l:=h0_0) (c:=Qaf) (c' := Qaf) h (λ_=>rfl) (λ_=>rfl) (by decide) (λx2 hi h=>?_);exact JP1.a h (Le.ty 1 0)
   .exact JP1.a h (Le.ty 1 0)
  .refine bF ?_;exact JP1.a h (Le.ty 1 0)
 .have h:=hk;refine Exists.intro _ (And.intro (Le.refl _ _ _) ?_);exact Qb2 (t:=Qdr) (ss:=λo=>⟨[[.p (.sl false (h0_0.map Qaf)),.p (iV h0_1),.p (bV h0_2)]],[]⟩) h ⟨[],rfl,.refl _,.refl _,rfl⟩
def Qb0 (p1:(List UInt8)) (h0_0:(List Qag)) (h0_1:Int) (h0_2:Bool):Option (Bool) :=
 ( Qap 2 h0_0 h0_1 h0_2>>=λx2 =>
  if x2 then
   if(decide ((wr (h0_1+1))<(h0_0.length:Int))) then
    idx h0_0 (wr (h0_1+1))>>=λx3 =>
    if(x3.Kind==4) then
     idx h0_0 (wr (h0_1+1))>>=λx4 =>
     some (x4.Text==p1)
    else
     some false
   else
    some false
  else
   some false:Option (Bool))>>=λo1 =>
 some o1
theorem Qe1:∀ (p1:(List UInt8)) (h0_0:(List Qag)) (h0_1:Int) (h0_2:Bool) (o:Bool),Qb0 p1 h0_0 h0_1 h0_2=some o->CallOK Tryz.prog 145 [.ptr 0 0,.p (sV p1)] ⟨[[.p (.sl false (h0_0.map Qaf)),.p (iV h0_1),.p (bV h0_2)]],[]⟩ (Qmj o) ⟨[[.p (.sl false (h0_0.map Qaf)),.p (iV h0_1),.p (bV h0_2)]],[]⟩:=by
 intro p1 h0_0 h0_1 h0_2 o h;unfold Qb0 at h;refine CallOK.ofB mixed tbOk Qs1 Tryz.func145 rfl (by kernel_rfl) (Nat.le_of_ble_eq_true rfl) rfl rfl rfl ?_;refine Qaj h (λo1 ho hk=>?_);refine Exists.intro (JP1 _ _ o1 .normal (Qqn h0_0 h0_1 h0_2)) (And.intro ?_ (Qa5 ?_))
 .have h:=ho;refine And.intro (by decide +kernel) (And.intro rfl ?_);refine Qob (λx2=>(Qdr x2).ren [0] []) h (λx2 hy=>(Qav 2 h0_0 h0_1 h0_2 x2 hy).fd rfl rfl [0] rfl rfl) (λx2 hy h=>?_);refine Qae h (λhb h=>?_) (λhb h=>?_)
  .refine view (Qcz _ _) rfl ?_;refine Qae h (λhb h=>?_) (λhb h=>?_)
   .refine Qbu (l:=h0_0) (c:=Qaf) (c' := Qaf) h (λ_=>rfl) (λ_=>rfl) (by decide) (λx3 hi h=>?_);refine Qae h (λhb h=>?_) (λhb h=>?_)
    .refine Qbu (l:=h0_0) (c:=Qaf) (c' := Qaf) h (λ_=>rfl) (λ_=>rfl) (by decide) (λx4 hi h=>?_);exact JP1.a h (Le.ty 1 0)
    .exact JP1.a h (Le.ty 1 0)
   .refine bF ?_;exact JP1.a h (Le.ty 1 0)
  .refine bF ?_;refine bF ?_;exact JP1.a h (Le.ty 1 0)
 .have h:=hk;refine Exists.intro _ (And.intro (Le.refl _ _ _) ?_);exact Qb2 (t:=Qmj) (ss:=λo=>⟨[[.p (.sl false (h0_0.map Qaf)),.p (iV h0_1),.p (bV h0_2)]],[]⟩) h ⟨[],rfl,.refl _,.refl _,rfl⟩
def Qah (p1:Bool) (h0_0:(List Qag)) (h0_1:Int) (h0_2:Bool):Option (Qag×Int×Bool) :=
 ( if(!p1) then
   some true
  else
   some h0_2:Option (Bool))>>=λo1 =>
 if o1 then
  some ((Qag.mk 0 [] 0 0 0),h0_1,true)
 else
  idx h0_0 (wr ((wr (h0_1+1))-1))>>=λx2 =>
  some (x2,(wr (h0_1+1)),h0_2)
theorem Qao:∀ (p1:Bool) (h0_0:(List Qag)) (h0_1:Int) (h0_2:Bool) (o:Qag×Int×Bool),Qah p1 h0_0 h0_1 h0_2=some o->CallOK Tryz.prog 144 [.ptr 0 0,.p (bV p1)] ⟨[[.p (.sl false (h0_0.map Qaf)),.p (iV h0_1),.p (bV h0_2)]],[]⟩ (Qi5 o) ⟨[[.p (.sl false (h0_0.map Qaf)),.p (iV o.2.1),.p (bV o.2.2)]],[]⟩:=by
 intro p1 h0_0 h0_1 h0_2 o h;unfold Qah at h;refine CallOK.ofB mixed tbOk Qt8 Tryz.func144 rfl (by kernel_rfl) (Nat.le_of_ble_eq_true rfl) rfl rfl rfl ?_;refine Qaj h (λo1 ho hk=>?_);refine Exists.intro (JP1 _ _ o1 .normal (Qrt h0_0 h0_1 h0_2)) (And.intro ?_ (Qa5 ?_))
 .have h:=ho;refine Qae h (λhb h=>?_) (λhb h=>?_)
  .exact JP1.a h (Le.ty 2 0)
  .exact JP1.a h (Le.ty 2 0)
 .have h:=hk;refine Qae h (λhb h=>?_) (λhb h=>?_)
  .refine Exists.intro _ (And.intro (Le.refl _ _ _) ?_);exact Qb2 (t:=Qi5) (ss:=λo=>⟨[[.p (.sl false (h0_0.map Qaf)),.p (iV o.2.1),.p (bV o.2.2)]],[]⟩) h ⟨[],rfl,.refl _,.refl _,rfl⟩
  .refine And.intro (by decide +kernel) (And.intro rfl ?_);refine Qbu (l:=h0_0) (c:=Qaf) (c' := Qaf) h (λ_=>rfl) (λ_=>rfl) (by decide) (λx2 hi h=>?_);refine Exists.intro _ (And.intro (Le.refl _ _ _) ?_);exact Qb2 (t:=Qi5) (ss:=λo=>⟨[[.p (.sl false (h0_0.map Qaf)),.p (iV o.2.1),.p (bV o.2.2)]],[]⟩) h ⟨[],rfl,.refl _,.refl _,rfl⟩
instance Q5b:Lean.Order.CCPO ((List Qaa)->(List Qaa)->(List Qaa)->Option ((Int×Bool×Int×(List UInt8)×(List UInt8)×Int×(List Qaa)×(List Qaa)×(List Qaa)))):=inferInstance
instance Q5c:Lean.Order.CCPO ((List UInt8)->(List UInt8)->Int->(List Qaa)->(List Qaa)->(List Qaa)->Option ((Int×Bool×Int×(List UInt8)×(List UInt8)×Int×(List Qaa)×(List Qaa)×(List Qaa)))):=inferInstance
def Qcj (h0_0:(List Qag)) (h0_1_:Int) (h0_2_:Bool) (h2_0:Int) (h2_1:(List UInt8)) (h2_2:(List UInt8)) (h2_3:Int) (h2_4:(List Qaa)) (h2_5:(List Qaa)) (h2_6:(List Qaa)):Option ((Int×Bool×Int×(List UInt8)×(List UInt8)×Int×(List Qaa)×(List Qaa)×(List Qaa))) :=
 Qap 7 h0_0 h0_1_ h0_2_>>=λx3 =>
 if x3 then
  Qah true h0_0 h0_1_ h0_2_>>=λx4 =>
  Qap 4 h0_0 x4.2.1 x4.2.2>>=λx5 =>
  Qah x5 h0_0 x4.2.1 x4.2.2>>=λx6 =>
  Qcj h0_0 x6.2.1 x6.2.2 5 x6.1.Text [] 0 [(Qaa.mk h2_0 h2_1 h2_2 h2_3 h2_4 h2_5 h2_6)] [] []
 else
  some (h0_1_,h0_2_,h2_0,h2_1,h2_2,h2_3,h2_4,h2_5,h2_6)
 partial_fixpoint
theorem Q5d:∀ (h0_0:(List Qag)),(∀ (h0_1_:Int) (h0_2_:Bool) (h2_0:Int) (h2_1:(List UInt8)) (h2_2:(List UInt8)) (h2_3:Int) (h2_4:(List Qaa)) (h2_5:(List Qaa)) (h2_6:(List Qaa)) (o2:(Int×Bool×Int×(List UInt8)×(List UInt8)×Int×(List Qaa)×(List Qaa)×(List Qaa))),Qcj h0_0 h0_1_ h0_2_ h2_0 h2_1 h2_2 h2_3 h2_4 h2_5 h2_6=some o2->TL (1,0) Tryz.prog 19 Qrq (JP1 (1,0) 19 o2 (.exit 0) (Qj3 h0_0)) (Qfx h0_0 h0_1_ h0_2_ h2_0 h2_1 h2_2 h2_3 h2_4 h2_5 h2_6)):=by
 intro h0_0;refine Qcj.partial_correctness h0_0 _ ?_;intro Qcj' iQcj h0_1_ h0_2_ h2_0 h2_1 h2_2 h2_3 h2_4 h2_5 h2_6 o2 h;refine TL.round (Qaq mixed tbOk (lv:=Qmk) _ _ _ ?_);refine Qam _ _ h (λx3 hy=>((Qav 7 h0_0 h0_1_ h0_2_ x3 hy).fr [0] [] rfl rfl rfl)) (λx3 hy h=>?_);refine Qae h (λhb h=>?_) (λhb h=>?_)
 .refine Qam _ _ h (λx4 hy=>((Qao true h0_0 h0_1_ h0_2_ x4 hy).fr [0] [] rfl rfl rfl)) (λx4 hy h=>?_);refine And.intro (by decide +kernel) (And.intro rfl ?_);refine Qob (λx5=>(Qdr x5).ren [0] []) h (λx5 hy=>(Qav 4 h0_0 x4.2.1 x4.2.2 x5 hy).fd rfl rfl [0] rfl rfl) (λx5 hy h=>?_);refine Qq8 _ _ h (λx6 hy=>((Qao x5 h0_0 x4.2.1 x4.2.2 x6 hy).fg [0] [] rfl rfl rfl (Nat.le_of_ble_eq_true rfl))) (λx6 hy h=>?_);refine TL.le (τ := Qfx h0_0 x6.2.1 x6.2.2 5 x6.1.Text [] 0 [(Qaa.mk h2_0 h2_1 h2_2 h2_3 h2_4 h2_5 h2_6)] [] []) ?_ ((iQcj x6.2.1 x6.2.2 5 x6.1.Text [] 0 [(Qaa.mk h2_0 h2_1 h2_2 h2_3 h2_4 h2_5 h2_6)] [] [] _ h));exact Le.tow 3 0 rfl (.cons rfl (.refl _) (.cons rfl (.refl _) (.cons rfl (.refl _) (.nil)))) (.cons (.refl _) (.cons (.refl _) (.cons (.cons (.refl _) (.cons (.refl _) (.cons (.refl _) (.cons (.refl _) (.cons (.p (.no (.cons (.ceq (Qar _) (.refl _)) (.nil)))) (.cons (.p (.not)) (.cons (.p (.not)) (.nil)))))))) (.nil)))) rfl
 .exact JP1.a h (Le.ty 3 0)
def Qc3 (h0_0:(List Qag)) (h0_1:Int) (h0_2:Bool):Option ((List UInt8)×Int×Bool) :=
 ( Qap 4 h0_0 h0_1 h0_2>>=λx2 =>
  if x2 then
   idx h0_0 h0_1>>=λx3 =>
   Qga x3.Text>>=λx4 =>
   Qah x4 h0_0 h0_1 h0_2>>=λx5 =>
   some (x5.1.Text,x5.2.1,x5.2.2)
  else
   Qah false h0_0 h0_1 h0_2>>=λx6 =>
   some (x6.1.Text,x6.2.1,x6.2.2):Option (((List UInt8)×Int×Bool)))>>=λo1 =>
 some (o1.1,o1.2.1,o1.2.2)
theorem Qh1:∀ (h0_0:(List Qag)) (h0_1:Int) (h0_2:Bool) (o:(List UInt8)×Int×Bool),Qc3 h0_0 h0_1 h0_2=some o->CallOK Tryz.prog 165 [.ptr 0 0] ⟨[[.p (.sl false (h0_0.map Qaf)),.p (iV h0_1),.p (bV h0_2)]],[]⟩ (Qnt o) ⟨[[.p (.sl false (h0_0.map Qaf)),.p (iV o.2.1),.p (bV o.2.2)]],[]⟩:=by
 intro h0_0 h0_1 h0_2 o h;unfold Qc3 at h;refine CallOK.ofB mixed tbOk Qt7 Tryz.func165 rfl (by kernel_rfl) (Nat.le_of_ble_eq_true rfl) rfl rfl rfl ?_;refine Qaj h (λo1 ho hk=>?_);refine Exists.intro (JP1 _ _ o1 .normal (Qrs h0_0)) (And.intro ?_ (Qa5 ?_))
 .have h:=ho;refine And.intro (by decide +kernel) (And.intro rfl ?_);refine Qob (λx2=>(Qdr x2).ren [0] []) h (λx2 hy=>(Qav 4 h0_0 h0_1 h0_2 x2 hy).fd rfl rfl [0] rfl rfl) (λx2 hy h=>?_);refine Qae h (λhb h=>?_) (λhb h=>?_)
  .refine Qbu (l:=h0_0) (c:=Qaf) (c' := Qaf) h (λ_=>rfl) (λ_=>rfl) (by decide) (λx3 hi h=>?_);refine Qda [sV x3.Text] Qra h (λx4 hy=>(Q9q x3.Text x4 hy)) (λx4 hy h=>?_);refine Qq8 _ _ h (λx5 hy=>((Qao x4 h0_0 h0_1 h0_2 x5 hy).fg [0] [] rfl rfl rfl (Nat.le_of_ble_eq_true rfl))) (λx5 hy h=>?_);exact JP1.a h (Le.ty 1 0)
  .refine Qq8 _ _ h (λx6 hy=>((Qao false h0_0 h0_1 h0_2 x6 hy).fg [0] [] rfl rfl rfl (Nat.le_of_ble_eq_true rfl))) (λx6 hy h=>?_);exact JP1.a h (Le.ty 1 0)
 .have h:=hk;refine Exists.intro _ (And.intro (Le.refl _ _ _) ?_);exact Qb2 (t:=Qnt) (ss:=λo=>⟨[[.p (.sl false (h0_0.map Qaf)),.p (iV o.2.1),.p (bV o.2.2)]],[]⟩) h ⟨[],rfl,.refl _,.refl _,rfl⟩
def Qaw (p1:(List UInt8)) (h0_0:(List Qag)) (h0_1:Int) (h0_2:Bool):Option (Bool) :=
 ( Qap 4 h0_0 h0_1 h0_2>>=λx2 =>
  if x2 then
   idx h0_0 h0_1>>=λx3 =>
   some (x3.Text==p1)
  else
   some false:Option (Bool))>>=λo1 =>
 some o1
theorem Qbj:∀ (p1:(List UInt8)) (h0_0:(List Qag)) (h0_1:Int) (h0_2:Bool) (o:Bool),Qaw p1 h0_0 h0_1 h0_2=some o->CallOK Tryz.prog 161 [.ptr 0 0,.p (sV p1)] ⟨[[.p (.sl false (h0_0.map Qaf)),.p (iV h0_1),.p (bV h0_2)]],[]⟩ (Qnu o) ⟨[[.p (.sl false (h0_0.map Qaf)),.p (iV h0_1),.p (bV h0_2)]],[]⟩:=by
 intro p1 h0_0 h0_1 h0_2 o h;unfold Qaw at h;refine CallOK.ofB mixed tbOk Qt9 Tryz.func161 rfl (by kernel_rfl) (Nat.le_of_ble_eq_true rfl) rfl rfl rfl ?_;refine Qaj h (λo1 ho hk=>?_);refine Exists.intro (JP1 _ _ o1 .normal (Qru h0_0 h0_1 h0_2)) (And.intro ?_ (Qa5 ?_))
 .have h:=ho;refine And.intro (by decide +kernel) (And.intro rfl ?_);refine Qob (λx2=>(Qdr x2).ren [0] []) h (λx2 hy=>(Qav 4 h0_0 h0_1 h0_2 x2 hy).fd rfl rfl [0] rfl rfl) (λx2 hy h=>?_);refine Qae h (λhb h=>?_) (λhb h=>?_)
  .refine Qbu (l:=h0_0) (c:=Qaf) (c' := Qaf) h (λ_=>rfl) (λ_=>rfl) (by decide) (λx3 hi h=>?_);exact JP1.a h (Le.ty 1 0)
  .exact JP1.a h (Le.ty 1 0)
 .have h:=hk;refine Exists.intro _ (And.intro (Le.refl _ _ _) ?_);exact Qb2 (t:=Qnu) (ss:=λo=>⟨[[.p (.sl false (h0_0.map Qaf)),.p (iV h0_1),.p (bV h0_2)]],[]⟩) h ⟨[],rfl,.refl _,.refl _,rfl⟩
mutual
def Qb9 (h0_0:(List Qag)) (h0_1:Int) (h0_2:Bool):Option (Qaa×Int×Bool) :=
 Qgv h0_0 h0_1 h0_2>>=λx1 =>
 (Qcj h0_0 x1.2.1 x1.2.2 x1.1.Kind x1.1.Name x1.1.Text x1.1.N x1.1.L x1.1.Then x1.1.Else)>>=λo2 =>
 some ((Qaa.mk o2.2.2.1 o2.2.2.2.1 o2.2.2.2.2.1 o2.2.2.2.2.2.1 o2.2.2.2.2.2.2.1 o2.2.2.2.2.2.2.2.1 o2.2.2.2.2.2.2.2.2),o2.1,o2.2.1)
 partial_fixpoint
def Qgv (h0_0:(List Qag)) (h0_1:Int) (h0_2:Bool):Option (Qaa×Int×Bool) :=
 Qap 5 h0_0 h0_1 h0_2>>=λx1 =>
 if x1 then
  Qah true h0_0 h0_1 h0_2>>=λx2 =>
  some ((Qaa.mk 1 [] x2.1.Text 0 [] [] []),x2.2.1,x2.2.2)
 else
  Qap 6 h0_0 h0_1 h0_2>>=λx3 =>
  if x3 then
   Qah true h0_0 h0_1 h0_2>>=λx4 =>
   some ((Qaa.mk 2 [] [] x4.1.N [] [] []),x4.2.1,x4.2.2)
  else
   Qaw [116,114,117,101] h0_0 h0_1 h0_2>>=λx5 =>
   if x5 then
    Qah true h0_0 h0_1 h0_2>>=λx6 =>
    some ((Qaa.mk 3 [] [] 1 [] [] []),x6.2.1,x6.2.2)
   else
    Qaw [102,97,108,115,101] h0_0 h0_1 h0_2>>=λx7 =>
    if x7 then
     Qah true h0_0 h0_1 h0_2>>=λx8 =>
     some ((Qaa.mk 3 [] [] 0 [] [] []),x8.2.1,x8.2.2)
    else
     Qaw [115,101,99,114,101,116] h0_0 h0_1 h0_2>>=λx9 =>
     if x9 then
      Qah true h0_0 h0_1 h0_2>>=λx10 =>
      Qap 8 h0_0 x10.2.1 x10.2.2>>=λx11 =>
      Qah x11 h0_0 x10.2.1 x10.2.2>>=λx12 =>
      ( Qap 5 h0_0 x12.2.1 x12.2.2>>=λx14 =>
       if x14 then
        idx h0_0 x12.2.1>>=λx15 =>
        Qgu x15.Text>>=λx16 =>
        Qah x16 h0_0 x12.2.1 x12.2.2>>=λx17 =>
        some (x17.2.1,x17.2.2,x17.1.Kind,x17.1.Text,x17.1.N,x17.1.From,x17.1.To)
       else
        Qah false h0_0 x12.2.1 x12.2.2>>=λx18 =>
        some (x18.2.1,x18.2.2,x18.1.Kind,x18.1.Text,x18.1.N,x18.1.From,x18.1.To):Option ((Int×Bool×Int×(List UInt8)×Int×Int×Int)))>>=λo13 =>
      Qap 9 h0_0 o13.1 o13.2.1>>=λx19 =>
      Qah x19 h0_0 o13.1 o13.2.1>>=λx20 =>
      some ((Qaa.mk 7 o13.2.2.2.1 [] 0 [] [] []),x20.2.1,x20.2.2)
     else
      Qc3 h0_0 h0_1 h0_2>>=λx21 =>
      Qap 8 h0_0 x21.2.1 x21.2.2>>=λx22 =>
      if(!x22) then
       some ((Qaa.mk 4 x21.1 [] 0 [] [] []),x21.2.1,x21.2.2)
      else
       Qah true h0_0 x21.2.1 x21.2.2>>=λx23 =>
       Qap 9 h0_0 x23.2.1 x23.2.2>>=λx24 =>
       if x24 then
        Qah true h0_0 x23.2.1 x23.2.2>>=λx25 =>
        some ((Qaa.mk 6 x21.1 [] 0 [] [] []),x25.2.1,x25.2.2)
       else
        (Qcx h0_0 x21 0 x23.2.1 x23.2.2 [])>>=λo26 =>
        Qap 9 h0_0 o26.1 o26.2.1>>=λx33 =>
        Qah x33 h0_0 o26.1 o26.2.1>>=λx34 =>
        some ((Qaa.mk 6 x21.1 [] 0 o26.2.2 [] []),x34.2.1,x34.2.2)
 partial_fixpoint
def Qcx (h0_0:(List Qag)) (x21:(List UInt8)×Int×Bool) (v5:Int) (h0_1_:Int) (h0_2_:Bool) (h2_4:(List Qaa)):Option ((Int×Bool×(List Qaa))) :=
 ( if(decide (v5<3)) then
   some (!h0_2_)
  else
   some false:Option (Bool))>>=λo27 =>
 if o27 then
  Qb9 h0_0 h0_1_ h0_2_>>=λx28 =>
  appL 120 h2_4 [x28.1]>>=λx29 =>
  Qap 9 h0_0 x28.2.1 x28.2.2>>=λx30 =>
  if x30 then
   some (x28.2.1,x28.2.2,x29)
  else
   if(decide (v5<2)) then
    Qap 10 h0_0 x28.2.1 x28.2.2>>=λx31 =>
    Qah x31 h0_0 x28.2.1 x28.2.2>>=λx32 =>
    Qcx h0_0 x21 (wr (v5+1)) x32.2.1 x32.2.2 x29
   else
    Qcx h0_0 x21 (wr (v5+1)) x28.2.1 x28.2.2 x29
 else
  some (h0_1_,h0_2_,h2_4)
 partial_fixpoint
end
theorem Qs3:∀ (h0_0:(List Qag)),(∀ (h0_1:Int) (h0_2:Bool) (o:Qaa×Int×Bool),Qb9 h0_0 h0_1 h0_2=some o->CallOK Tryz.prog 162 [.ptr 0 0] ⟨[[.p (.sl false (h0_0.map Qaf)),.p (iV h0_1),.p (bV h0_2)]],[]⟩ (Qi4 o) ⟨[[.p (.sl false (h0_0.map Qaf)),.p (iV o.2.1),.p (bV o.2.2)]],[]⟩)/\(∀ (h0_1:Int) (h0_2:Bool) (o:Qaa×Int×Bool),Qgv h0_0 h0_1 h0_2=some o->CallOK Tryz.prog 173 [.ptr 0 0] ⟨[[.p (.sl false (h0_0.map Qaf)),.p (iV h0_1),.p (bV h0_2)]],[]⟩ (Qbq o) ⟨[[.p (.sl false (h0_0.map Qaf)),.p (iV o.2.1),.p (bV o.2.2)]],[]⟩)/\(∀ (x21:(List UInt8)×Int×Bool) (v5:Int) (h0_1_:Int) (h0_2_:Bool) (h2_4:(List Qaa)) (o26:(Int×Bool×(List Qaa))),Qcx h0_0 x21 v5 h0_1_ h0_2_ h2_4=some o26->TL (1,0) Tryz.prog 107 Qqu (JP1 (1,0) 107 o26 (.exit 0) (Qij h0_0 x21)) (Qdx h0_0 x21 v5 h0_1_ h0_2_ h2_4)):=by
 intro h0_0;refine Qb9.mutual_partial_correctness h0_0 _ _ _ ?_ ?_ ?_
 .intro Qgv' iQgv h0_1 h0_2 o h;refine CallOK.ofB mixed tbOk Qmk Tryz.func162 rfl (by kernel_rfl) (Nat.le_of_ble_eq_true rfl) rfl rfl rfl ?_;refine Qam _ _ h (λx1 hy=>((iQgv h0_1 h0_2 x1 hy).fr [0] [] rfl rfl rfl)) (λx1 hy h=>?_);refine Qaj h (λo2 ho hk=>?_);refine Exists.intro (JP1 _ _ o2 (.exit 0) (Qj3 h0_0)) (And.intro (Qk4 (τ := Qfx h0_0 x1.2.1 x1.2.2 x1.1.Kind x1.1.Name x1.1.Text x1.1.N x1.1.L x1.1.Then x1.1.Else) ?_ (TL.loop (Q5d h0_0 x1.2.1 x1.2.2 x1.1.Kind x1.1.Name x1.1.Text x1.1.N x1.1.L x1.1.Then x1.1.Else o2 ho))) (Qa5 ?_))
  .exact Le.ty 3 0
  have h:=hk;refine Exists.intro _ (And.intro (Le.refl _ _ _) ?_);exact Qb2 (t:=Qi4) (ss:=λo=>⟨[[.p (.sl false (h0_0.map Qaf)),.p (iV o.2.1),.p (bV o.2.2)]],[]⟩) h ⟨[],rfl,.refl _,.refl _,rfl⟩
 .intro Qcx' iQcx h0_1 h0_2 o h;refine CallOK.ofB mixed tbOk Qlu Tryz.func173 rfl (by kernel_rfl) (Nat.le_of_ble_eq_true rfl) rfl rfl rfl ?_;refine Qam _ _ h (λx1 hy=>((Qav 5 h0_0 h0_1 h0_2 x1 hy).fr [0] [] rfl rfl rfl)) (λx1 hy h=>?_);refine Qae h (λhb h=>?_) (λhb h=>?_)
  .refine Qam _ _ h (λx2 hy=>((Qao true h0_0 h0_1 h0_2 x2 hy).fr [0] [] rfl rfl rfl)) (λx2 hy h=>?_);refine Exists.intro _ (And.intro (Le.refl _ _ _) ?_);exact Qb2 (t:=Qbq) (ss:=λo=>⟨[[.p (.sl false (h0_0.map Qaf)),.p (iV o.2.1),.p (bV o.2.2)]],[]⟩) h ⟨[],rfl,.p (.agg' (.cons (.refl _) (.cons (.refl _) (.cons (.refl _) (.cons (.refl _) (.cons (.not) (.cons (.not) (.cons (.not) (.nil))))))))),.refl _,rfl⟩
  .refine Qam _ _ h (λx3 hy=>((Qav 6 h0_0 h0_1 h0_2 x3 hy).fr [0] [] rfl rfl rfl)) (λx3 hy h=>?_);refine Qae h (λhb h=>?_) (λhb h=>?_)
   .refine Qam _ _ h (λx4 hy=>((Qao true h0_0 h0_1 h0_2 x4 hy).fr [0] [] rfl rfl rfl)) (λx4 hy h=>?_);refine Exists.intro _ (And.intro (Le.refl _ _ _) ?_);exact Qb2 (t:=Qbq) (ss:=λo=>⟨[[.p (.sl false (h0_0.map Qaf)),.p (iV o.2.1),.p (bV o.2.2)]],[]⟩) h ⟨[],rfl,.p (.agg' (.cons (.refl _) (.cons (.refl _) (.cons (.refl _) (.cons (.refl _) (.cons (.not) (.cons (.not) (.cons (.not) (.nil))))))))),.refl _,rfl⟩
   .refine Qam _ _ h (λx5 hy=>((Qbj [116,114,117,101] h0_0 h0_1 h0_2 x5 hy).fr [0] [] rfl rfl rfl)) (λx5 hy h=>?_);refine Qae h (λhb h=>?_) (λhb h=>?_)
    .refine Qam _ _ h (λx6 hy=>((Qao true h0_0 h0_1 h0_2 x6 hy).fr [0] [] rfl rfl rfl)) (λx6 hy h=>?_);refine Exists.intro _ (And.intro (Le.refl _ _ _) ?_);exact Qb2 (t:=Qbq) (ss:=λo=>⟨[[.p (.sl false (h0_0.map Qaf)),.p (iV o.2.1),.p (bV o.2.2)]],[]⟩) h ⟨[],rfl,.p (.agg' (.cons (.refl _) (.cons (.refl _) (.cons (.refl _) (.cons (.refl _) (.cons (.not) (.cons (.not) (.cons (.not) (.nil))))))))),.refl _,rfl⟩
    .refine Qam _ _ h (λx7 hy=>((Qbj [102,97,108,115,101] h0_0 h0_1 h0_2 x7 hy).fr [0] [] rfl rfl rfl)) (λx7 hy h=>?_);refine Qae h (λhb h=>?_) (λhb h=>?_)
     .refine Qam _ _ h (λx8 hy=>((Qao true h0_0 h0_1 h0_2 x8 hy).fr [0] [] rfl rfl rfl)) (λx8 hy h=>?_);refine Exists.intro _ (And.intro (Le.refl _ _ _) ?_);exact Qb2 (t:=Qbq) (ss:=λo=>⟨[[.p (.sl false (h0_0.map Qaf)),.p (iV o.2.1),.p (bV o.2.2)]],[]⟩) h ⟨[],rfl,.p (.agg' (.cons (.refl _) (.cons (.refl _) (.cons (.refl _) (.cons (.refl _) (.cons (.not) (.cons (.not) (.cons (.not) (.nil))))))))),.refl _,rfl⟩
     .refine Qam _ _ h (λx9 hy=>((Qbj [115,101,99,114,101,116] h0_0 h0_1 h0_2 x9 hy).fr [0] [] rfl rfl rfl)) (λx9 hy h=>?_);refine Qae h (λhb h=>?_) (λhb h=>?_)
      .refine Qam _ _ h (λx10 hy=>((Qao true h0_0 h0_1 h0_2 x10 hy).fr [0] [] rfl rfl rfl)) (λx10 hy h=>?_);refine Qam _ _ h (λx11 hy=>((Qav 8 h0_0 x10.2.1 x10.2.2 x11 hy).fr [0] [] rfl rfl rfl)) (λx11 hy h=>?_);refine Qam _ _ h (λx12 hy=>((Qao x11 h0_0 x10.2.1 x10.2.2 x12 hy).fr [0] [] rfl rfl rfl)) (λx12 hy h=>?_);refine Qaj h (λo13 ho hk=>?_);refine Exists.intro (JP1 _ _ o13 .normal (Qqs h0_0)) (And.intro ?_ (Qa5 ?_))
       .have h:=ho;refine And.intro (by decide +kernel) (And.intro rfl ?_);refine Qob (λx14=>(Qdr x14).ren [0] []) h (λx14 hy=>(Qav 5 h0_0 x12.2.1 x12.2.2 x14 hy).fd rfl rfl [0] rfl rfl) (λx14 hy h=>?_);refine Qae h (λhb h=>?_) (λhb h=>?_)
        .refine Qbu (l:=h0_0) (c:=Qaf) (c' := Qaf) h (λ_=>rfl) (λ_=>rfl) (by decide) (λx15 hi h=>?_);refine Qda [sV x15.Text] Qir h (λx16 hy=>(Qsr x15.Text x16 hy)) (λx16 hy h=>?_);refine Qq8 _ _ h (λx17 hy=>((Qao x16 h0_0 x12.2.1 x12.2.2 x17 hy).fg [0] [] rfl rfl rfl (Nat.le_of_ble_eq_true rfl))) (λx17 hy h=>?_);exact JP1.a h (Le.ty 3 0)
        .refine Qq8 _ _ h (λx18 hy=>((Qao false h0_0 x12.2.1 x12.2.2 x18 hy).fg [0] [] rfl rfl rfl (Nat.le_of_ble_eq_true rfl))) (λx18 hy h=>?_);exact JP1.a h (Le.ty 3 0)
       .have h:=hk;refine Qam _ _ h (λx19 hy=>((Qav 9 h0_0 o13.1 o13.2.1 x19 hy).fr [0] [] rfl rfl rfl)) (λx19 hy h=>?_);refine Qam _ _ h (λx20 hy=>((Qao x19 h0_0 o13.1 o13.2.1 x20 hy).fr [0] [] rfl rfl rfl)) (λx20 hy h=>?_);refine Exists.intro _ (And.intro (Le.refl _ _ _) ?_);exact Qb2 (t:=Qbq) (ss:=λo=>⟨[[.p (.sl false (h0_0.map Qaf)),.p (iV o.2.1),.p (bV o.2.2)]],[]⟩) h ⟨[],rfl,.p (.agg' (.cons (.refl _) (.cons (.refl _) (.cons (.refl _) (.cons (.refl _) (.cons (.not) (.cons (.not) (.cons (.not) (.nil))))))))),.refl _,rfl⟩
      .refine Qam _ _ h (λx21 hy=>((Qh1 h0_0 h0_1 h0_2 x21 hy).fr [0] [] rfl rfl rfl)) (λx21 hy h=>?_);refine Qam _ _ h (λx22 hy=>((Qav 8 h0_0 x21.2.1 x21.2.2 x22 hy).fr [0] [] rfl rfl rfl)) (λx22 hy h=>?_);refine Qae h (λhb h=>?_) (λhb h=>?_)
       .refine Exists.intro _ (And.intro (Le.refl _ _ _) ?_);exact Qb2 (t:=Qbq) (ss:=λo=>⟨[[.p (.sl false (h0_0.map Qaf)),.p (iV o.2.1),.p (bV o.2.2)]],[]⟩) h ⟨[],rfl,.p (.agg' (.cons (.refl _) (.cons (.refl _) (.cons (.refl _) (.cons (.refl _) (.cons (.not) (.cons (.not) (.cons (.not) (.nil))))))))),.refl _,rfl⟩
       .refine Qam _ _ h (λx23 hy=>((Qao true h0_0 x21.2.1 x21.2.2 x23 hy).fr [0] [] rfl rfl rfl)) (λx23 hy h=>?_);refine Qam _ _ h (λx24 hy=>((Qav 9 h0_0 x23.2.1 x23.2.2 x24 hy).fr [0] [] rfl rfl rfl)) (λx24 hy h=>?_);refine Qae h (λhb h=>?_) (λhb h=>?_)
        .refine Qam _ _ h (λx25 hy=>((Qao true h0_0 x23.2.1 x23.2.2 x25 hy).fr [0] [] rfl rfl rfl)) (λx25 hy h=>?_);refine Exists.intro _ (And.intro (Le.refl _ _ _) ?_);exact Qb2 (t:=Qbq) (ss:=λo=>⟨[[.p (.sl false (h0_0.map Qaf)),.p (iV o.2.1),.p (bV o.2.2)]],[]⟩) h ⟨[],rfl,.p (.agg' (.cons (.refl _) (.cons (.refl _) (.cons (.refl _) (.cons (.refl _) (.cons (.not) (.cons (.not) (.cons (.not) (.nil))))))))),.refl _,rfl⟩
        .refine Qaj h (λo26 ho hk=>?_);refine Exists.intro (JP1 _ _ o26 (.exit 0) (Qij h0_0 x21)) (And.intro (Qk4 (τ := Qdx h0_0 x21 0 x23.2.1 x23.2.2 []) ?_ (TL.loop (iQcx x21 0 x23.2.1 x23.2.2 [] o26 ho))) (Qa5 ?_))
         .exact(Le.ownH 2 4 38 7 rfl rfl Q9e).trans (Le.ty 3 1)
         have h:=hk;refine Qam _ _ h (λx33 hy=>((Qav 9 h0_0 o26.1 o26.2.1 x33 hy).fr [0] [] rfl rfl rfl)) (λx33 hy h=>?_);refine Qam _ _ h (λx34 hy=>((Qao x33 h0_0 o26.1 o26.2.1 x34 hy).fr [0] [] rfl rfl rfl)) (λx34 hy h=>?_);refine Exists.intro _ (And.intro (Le.refl _ _ _) ?_);exact Qb2 (t:=Qbq) (ss:=λo=>⟨[[.p (.sl false (h0_0.map Qaf)),.p (iV o.2.1),.p (bV o.2.2)]],[]⟩) h ⟨[],rfl,.p (.agg' (.cons (.refl _) (.cons (.refl _) (.cons (.refl _) (.cons (.refl _) (.cons (.refl _) (.cons (.not) (.cons (.not) (.nil))))))))),.refl _,rfl⟩
 .intro Qb9' Qcx' iQb9 iQcx x21 v5 h0_1_ h0_2_ h2_4 o26 h;refine TL.round (Qaq mixed tbOk (lv:=Qlu) _ _ _ ?_);refine Qaj h (λo27 ho hk=>?_);refine Exists.intro (JP1 _ _ o27 .normal (Qqt h0_0 x21 v5 h0_1_ h0_2_ h2_4)) (And.intro ?_ (Qa5 ?_))
  .have h:=ho;refine Qae h (λhb h=>?_) (λhb h=>?_)
   .exact JP1.a h (Le.ty 3 1)
   .exact JP1.a h (Le.ty 3 1)
  .have h:=hk;refine Qae h (λhb h=>?_) (λhb h=>?_)
   .refine And.intro (by decide +kernel) (And.intro rfl ?_);refine Qq8 _ _ h (λx28 hy=>((iQb9 h0_1_ h0_2_ x28 hy).fg [0] [] rfl rfl rfl (Nat.le_of_ble_eq_true rfl))) (λx28 hy h=>?_);refine Qms (a:=h2_4) (b:=[x28.1]) (c:=Qab) h (.cons (.ceq (Qar _) (.refl _)) (.nil)) (λx=>by rw[Qar]; rfl) rfl (λx29 hi h=>?_);refine Qam _ _ h (λx30 hy=>((Qav 9 h0_0 x28.2.1 x28.2.2 x30 hy).fr [0] [] rfl rfl rfl)) (λx30 hy h=>?_);refine Qae h (λhb h=>?_) (λhb h=>?_)
    .exact JP1.a h (Le.ty 3 1)
    .refine Qae h (λhb h=>?_) (λhb h=>?_)
     .refine Qam _ _ h (λx31 hy=>((Qav 10 h0_0 x28.2.1 x28.2.2 x31 hy).fr [0] [] rfl rfl rfl)) (λx31 hy h=>?_);refine Qam _ _ h (λx32 hy=>((Qao x31 h0_0 x28.2.1 x28.2.2 x32 hy).fr [0] [] rfl rfl rfl)) (λx32 hy h=>?_);refine TL.le (τ := Qdx h0_0 x21 (wr (v5+1)) x32.2.1 x32.2.2 x29) ?_ ((iQcx x21 (wr (v5+1)) x32.2.1 x32.2.2 x29 _ h));exact Le.ty 3 1
     .refine TL.le (τ := Qdx h0_0 x21 (wr (v5+1)) x28.2.1 x28.2.2 x29) ?_ ((iQcx x21 (wr (v5+1)) x28.2.1 x28.2.2 x29 _ h));exact Le.ty 3 1
   .exact JP1.a h (Le.ty 3 1)
theorem Qh2:∀ (h0_0:(List Qag)) (h0_1:Int) (h0_2:Bool) (o:Qaa×Int×Bool),Qb9 h0_0 h0_1 h0_2=some o->CallOK Tryz.prog 162 [.ptr 0 0] ⟨[[.p (.sl false (h0_0.map Qaf)),.p (iV h0_1),.p (bV h0_2)]],[]⟩ (Qi4 o) ⟨[[.p (.sl false (h0_0.map Qaf)),.p (iV o.2.1),.p (bV o.2.2)]],[]⟩:=λh0_0 h0_1 h0_2=>(Qs3 h0_0).1 h0_1 h0_2
def Qcd (h0_0:(List Qag)) (h0_1:Int) (h0_2:Bool):Option (Int×Bool) :=
 Qap 3 h0_0 h0_1 h0_2>>=λx1 =>
 Qah x1 h0_0 h0_1 h0_2>>=λx2 =>
 some (x2.2.1,x2.2.2)
theorem Qe2:∀ (h0_0:(List Qag)) (h0_1:Int) (h0_2:Bool) (o:Int×Bool),Qcd h0_0 h0_1 h0_2=some o->CallOK Tryz.prog 163 [.ptr 0 0] ⟨[[.p (.sl false (h0_0.map Qaf)),.p (iV h0_1),.p (bV h0_2)]],[]⟩ (Qml o) ⟨[[.p (.sl false (h0_0.map Qaf)),.p (iV o.1),.p (bV o.2)]],[]⟩:=by
 intro h0_0 h0_1 h0_2 o h;unfold Qcd at h;refine CallOK.ofB mixed tbOk Qs2 Tryz.func163 rfl (by kernel_rfl) (Nat.le_of_ble_eq_true rfl) rfl rfl rfl ?_;refine Qam _ _ h (λx1 hy=>((Qav 3 h0_0 h0_1 h0_2 x1 hy).fr [0] [] rfl rfl rfl)) (λx1 hy h=>?_);refine Qam _ _ h (λx2 hy=>((Qao x1 h0_0 h0_1 h0_2 x2 hy).fr [0] [] rfl rfl rfl)) (λx2 hy h=>?_);refine Exists.intro _ (And.intro (Le.refl _ _ _) ?_);exact Qb2 (t:=Qml) (ss:=λo=>⟨[[.p (.sl false (h0_0.map Qaf)),.p (iV o.1),.p (bV o.2)]],[]⟩) h ⟨[],rfl,.refl _,.refl _,rfl⟩
def Qdf (p1:(List UInt8)) (h0_0:(List Qag)) (h0_1:Int) (h0_2:Bool):Option (Int×Bool) :=
 Qap 2 h0_0 h0_1 h0_2>>=λx1 =>
 Qah x1 h0_0 h0_1 h0_2>>=λx2 =>
 Qaw p1 h0_0 x2.2.1 x2.2.2>>=λx3 =>
 Qah x3 h0_0 x2.2.1 x2.2.2>>=λx4 =>
 Qcd h0_0 x4.2.1 x4.2.2>>=λx5 =>
 some (x5.1,x5.2)
theorem Qja:∀ (p1:(List UInt8)) (h0_0:(List Qag)) (h0_1:Int) (h0_2:Bool) (o:Int×Bool),Qdf p1 h0_0 h0_1 h0_2=some o->CallOK Tryz.prog 164 [.ptr 0 0,.p (sV p1)] ⟨[[.p (.sl false (h0_0.map Qaf)),.p (iV h0_1),.p (bV h0_2)]],[]⟩ (Qpf o) ⟨[[.p (.sl false (h0_0.map Qaf)),.p (iV o.1),.p (bV o.2)]],[]⟩:=by
 intro p1 h0_0 h0_1 h0_2 o h;unfold Qdf at h;refine CallOK.ofB mixed tbOk Qvc Tryz.func164 rfl (by kernel_rfl) (Nat.le_of_ble_eq_true rfl) rfl rfl rfl ?_;refine Qam _ _ h (λx1 hy=>((Qav 2 h0_0 h0_1 h0_2 x1 hy).fr [0] [] rfl rfl rfl)) (λx1 hy h=>?_);refine Qam _ _ h (λx2 hy=>((Qao x1 h0_0 h0_1 h0_2 x2 hy).fr [0] [] rfl rfl rfl)) (λx2 hy h=>?_);refine Qam _ _ h (λx3 hy=>((Qbj p1 h0_0 x2.2.1 x2.2.2 x3 hy).fr [0] [] rfl rfl rfl)) (λx3 hy h=>?_);refine Qam _ _ h (λx4 hy=>((Qao x3 h0_0 x2.2.1 x2.2.2 x4 hy).fr [0] [] rfl rfl rfl)) (λx4 hy h=>?_);refine Qam _ _ h (λx5 hy=>((Qe2 h0_0 x4.2.1 x4.2.2 x5 hy).fr [0] [] rfl rfl rfl)) (λx5 hy h=>?_);refine Exists.intro _ (And.intro (Le.refl _ _ _) ?_);exact Qb2 (t:=Qpf) (ss:=λo=>⟨[[.p (.sl false (h0_0.map Qaf)),.p (iV o.1),.p (bV o.2)]],[]⟩) h ⟨[],rfl,.refl _,.refl _,rfl⟩
mutual
def Qb1 (p1:Bool) (p2:Bool) (h0_0:(List Qag)) (h0_1:Int) (h0_2:Bool):Option ((List Qaa)×Int×Bool) :=
 (Qby p1 p2 h0_0 [] h0_1 h0_2)>>=λo1 =>
 match o1 with
 | .inl y2 =>
  some (y2.1,y2.2.1,y2.2.2)
 | .inr y3 =>
  some (y3.1,y3.2.1,y3.2.2)
 partial_fixpoint
def Qby (p1:Bool) (p2:Bool) (h0_0:(List Qag)) (v7:(List Qaa)) (h0_1_:Int) (h0_2_:Bool):Option (((List Qaa)×Int×Bool)⊕((List Qaa)×Int×Bool)) :=
 ( if(!h0_2_) then
   some (decide (h0_1_<(h0_0.length:Int)))
  else
   some false:Option (Bool))>>=λo4 =>
 if o4 then
  Qap 1 h0_0 h0_1_ h0_2_>>=λx5 =>
  if x5 then
   Qah true h0_0 h0_1_ h0_2_>>=λx6 =>
   ( if(decide ((wr ((v7.length:Int)-1)) >= 0)) then
     idx v7 (wr ((v7.length:Int)-1))>>=λx8 =>
     some (x8.Kind==8)
    else
     some false:Option (Bool))>>=λo7 =>
   if o7 then
    idx v7 (wr ((v7.length:Int)-1))>>=λx9 =>
    need (x9.Text.length+x6.1.Text.length<=9223372036854775807)>>=λ_ =>
    idx v7 (wr ((v7.length:Int)-1))>>=λx10 =>
    Qby p1 p2 h0_0 (v7.set ((wr ((v7.length:Int)-1)).toNat) (Qaa.mk x10.Kind x10.Name (x9.Text++x6.1.Text) x10.N x10.L x10.Then x10.Else)) x6.2.1 x6.2.2
   else
    appL 120 v7 ([(Qaa.mk 8 [] x6.1.Text 0 [] [] [])])>>=λx11 =>
    Qby p1 p2 h0_0 x11 x6.2.1 x6.2.2
  else
   ( if p1 then
     Qb0 [101,110,100] h0_0 h0_1_ h0_2_>>=λx13 =>
     if x13 then
      some true
     else
      if p2 then
       Qb0 [101,108,115,101] h0_0 h0_1_ h0_2_>>=λx14 =>
       some x14
      else
       some false
    else
     if p2 then
      Qb0 [101,108,115,101] h0_0 h0_1_ h0_2_>>=λx15 =>
      some x15
     else
      some false:Option (Bool))>>=λo12 =>
   if o12 then
    some (.inr (v7,h0_1_,h0_2_))
   else
    Qap 2 h0_0 h0_1_ h0_2_>>=λx16 =>
    Qah x16 h0_0 h0_1_ h0_2_>>=λx17 =>
    Qap 3 h0_0 x17.2.1 x17.2.2>>=λx18 =>
    if x18 then
     Qah true h0_0 x17.2.1 x17.2.2>>=λx19 =>
     Qby p1 p2 h0_0 v7 x19.2.1 x19.2.2
    else
     Qge h0_0 x17.2.1 x17.2.2>>=λx20 =>
     appL 120 v7 [x20.1]>>=λx21 =>
     Qby p1 p2 h0_0 x21 x20.2.1 x20.2.2
 else
  some (.inl (v7,h0_1_,h0_2_))
 partial_fixpoint
def Qge (h0_0:(List Qag)) (h0_1:Int) (h0_2:Bool):Option (Qaa×Int×Bool) :=
 Qaw [105,102] h0_0 h0_1 h0_2>>=λx1 =>
 if x1 then
  Qah true h0_0 h0_1 h0_2>>=λx2 =>
  Qb9 h0_0 x2.2.1 x2.2.2>>=λx3 =>
  Qcd h0_0 x3.2.1 x3.2.2>>=λx4 =>
  Qb1 true true h0_0 x4.1 x4.2>>=λx5 =>
  ( Qb0 [101,108,115,101] h0_0 x5.2.1 x5.2.2>>=λx7 =>
   if x7 then
    Qdf [101,108,115,101] h0_0 x5.2.1 x5.2.2>>=λx8 =>
    Qb1 true false h0_0 x8.1 x8.2>>=λx9 =>
    some (x9.2.1,x9.2.2,x9.1)
   else
    some (x5.2.1,x5.2.2,[]):Option ((Int×Bool×(List Qaa))))>>=λo6 =>
  Qdf [101,110,100] h0_0 o6.1 o6.2.1>>=λx10 =>
  some ((Qaa.mk 10 [] [] 0 [x3.1] x5.1 o6.2.2),x10.1,x10.2)
 else
  ( Qaw [101,97,99,104] h0_0 h0_1 h0_2>>=λx12 =>
   if x12 then
    some true
   else
    Qaw [108,101,116] h0_0 h0_1 h0_2>>=λx13 =>
    some x13:Option (Bool))>>=λo11 =>
  if o11 then
   ( Qaw [108,101,116] h0_0 h0_1 h0_2>>=λx15 =>
    if x15 then
     some 12
    else
     some 11:Option (Int))>>=λo14 =>
   Qah true h0_0 h0_1 h0_2>>=λx16 =>
   Qc3 h0_0 x16.2.1 x16.2.2>>=λx17 =>
   ( if(o14==11) then
     Qaw [105,110] h0_0 x17.2.1 x17.2.2>>=λx19 =>
     Qah x19 h0_0 x17.2.1 x17.2.2>>=λx20 =>
     some (x20.2.1,x20.2.2)
    else
     Qap 11 h0_0 x17.2.1 x17.2.2>>=λx21 =>
     Qah x21 h0_0 x17.2.1 x17.2.2>>=λx22 =>
     some (x22.2.1,x22.2.2):Option ((Int×Bool)))>>=λo18 =>
   Qb9 h0_0 o18.1 o18.2>>=λx23 =>
   Qcd h0_0 x23.2.1 x23.2.2>>=λx24 =>
   Qb1 true false h0_0 x24.1 x24.2>>=λx25 =>
   Qdf [101,110,100] h0_0 x25.2.1 x25.2.2>>=λx26 =>
   some ((Qaa.mk o14 x17.1 [] 0 [x23.1] x25.1 []),x26.1,x26.2)
  else
   ( Qaw [117,115,101] h0_0 h0_1 h0_2>>=λx28 =>
    if x28 then
     Qah true h0_0 h0_1 h0_2>>=λx29 =>
     Qc3 h0_0 x29.2.1 x29.2.2>>=λx30 =>
     some (x30.2.1,x30.2.2,13,x30.1)
    else
     some (h0_1,h0_2,9,[]):Option ((Int×Bool×Int×(List UInt8))))>>=λo27 =>
   Qb9 h0_0 o27.1 o27.2.1>>=λx31 =>
   Qcd h0_0 x31.2.1 x31.2.2>>=λx32 =>
   some ((Qaa.mk o27.2.2.1 o27.2.2.2 [] 0 [x31.1] [] []),x32.1,x32.2)
 partial_fixpoint
end
theorem Qrv:∀ (h0_0:(List Qag)),(∀ (p1:Bool) (p2:Bool) (h0_1:Int) (h0_2:Bool) (o:(List Qaa)×Int×Bool),Qb1 p1 p2 h0_0 h0_1 h0_2=some o->CallOK Tryz.prog 116 [.ptr 0 0,.p (bV p1),.p (bV p2)] ⟨[[.p (.sl false (h0_0.map Qaf)),.p (iV h0_1),.p (bV h0_2)]],[]⟩ (Qfm o) ⟨[[.p (.sl false (h0_0.map Qaf)),.p (iV o.2.1),.p (bV o.2.2)]],[]⟩)/\(∀ (p1:Bool) (p2:Bool) (v7:(List Qaa)) (h0_1_:Int) (h0_2_:Bool) (o1:((List Qaa)×Int×Bool)⊕((List Qaa)×Int×Bool)),Qby p1 p2 h0_0 v7 h0_1_ h0_2_=some o1->TL (1,0) Tryz.prog 89 Qqr (JP2 (1,0) 89 o1 (.exit 0) (Qih p1 p2 h0_0) .ret (Qii p1 p2 h0_0)) (Qb8 p1 p2 h0_0 v7 h0_1_ h0_2_))/\(∀ (h0_1:Int) (h0_2:Bool) (o:Qaa×Int×Bool),Qge h0_0 h0_1 h0_2=some o->CallOK Tryz.prog 146 [.ptr 0 0] ⟨[[.p (.sl false (h0_0.map Qaf)),.p (iV h0_1),.p (bV h0_2)]],[]⟩ (Qex o) ⟨[[.p (.sl false (h0_0.map Qaf)),.p (iV o.2.1),.p (bV o.2.2)]],[]⟩):=by
 intro h0_0;refine Qb1.mutual_partial_correctness h0_0 _ _ _ ?_ ?_ ?_
 .intro Qby' iQby p1 p2 h0_1 h0_2 o h;refine CallOK.ofB mixed tbOk Qlt Tryz.func116 rfl (by kernel_rfl) (Nat.le_of_ble_eq_true rfl) rfl rfl rfl ?_;refine Qaj h (λo1 ho hk=>?_);refine Exists.intro (JP2 _ _ o1 (.exit 0) (Qih p1 p2 h0_0) .ret (Qii p1 p2 h0_0)) (And.intro (Qk4 (τ := Qb8 p1 p2 h0_0 [] h0_1 h0_2) ?_ (TL.loop (iQby p1 p2 [] h0_1 h0_2 o1 ho))) (Qke (λy2 hy=>?_) (λy3 hy=>?_)))
  .exact Le.trans (τ := ⟨[(0,.ptr 0 0),(1,.p (bV p1)),(2,.p (bV p2)),(7,.p (.sl true []))],⟨[[.p (.sl false (h0_0.map Qaf)),.p (iV h0_1),.p (bV h0_2)]],[]⟩⟩) (Le.ty 1 0) ((Le.xnil (.s 7) 38 7 rfl).trans (Le.ty 1 1))
  .have h:=(by rw[hy] at hk; exact hk);refine Exists.intro _ (And.intro (Le.trans (τ := ⟨[(6,.x 0 1 (.sl 38 7 (y2.1.map Qab)))],⟨[[.p (.sl false (h0_0.map Qaf)),.p (iV y2.2.1),.p (bV y2.2.2)]],[1]⟩⟩) (Le.ty 1 1) ((Le.frzv (.s 6) 0 1 rfl rfl rfl rfl).trans (Le.refl _ _ _))) ?_);exact Qb2 (t:=Qfm) (ss:=λo=>⟨[[.p (.sl false (h0_0.map Qaf)),.p (iV o.2.1),.p (bV o.2.2)]],[]⟩) h ⟨[],rfl,.refl _,.refl _,rfl⟩
  .have h:=(by rw[hy] at hk; exact hk);refine Exists.intro _ (And.intro (Le.trans (τ := ⟨[(6,.x 0 1 (.sl 38 7 (y3.1.map Qab)))],⟨[[.p (.sl false (h0_0.map Qaf)),.p (iV y3.2.1),.p (bV y3.2.2)]],[1]⟩⟩) (Le.ty 1 1) ((Le.frzv (.s 6) 0 1 rfl rfl rfl rfl).trans (Le.refl _ _ _))) ?_);exact Qb2 (t:=Qfm) (ss:=λo=>⟨[[.p (.sl false (h0_0.map Qaf)),.p (iV o.2.1),.p (bV o.2.2)]],[]⟩) h ⟨[],rfl,.refl _,.refl _,rfl⟩
 .intro Qby' Qge' iQby iQge p1 p2 v7 h0_1_ h0_2_ o1 h;refine TL.round (Qaq mixed tbOk (lv:=Qlt) _ _ _ ?_);refine Qaj h (λo4 ho hk=>?_);refine Exists.intro (JP1 _ _ o4 .normal (Qqo p1 p2 h0_0 v7 h0_1_ h0_2_)) (And.intro ?_ (Qa5 ?_))
  .have h:=ho;refine And.intro (by decide +kernel) (And.intro rfl ?_);refine Qae h (λhb h=>?_) (λhb h=>?_)
   .refine view (Qcz _ _) rfl ?_;exact JP1.a h (Le.ty 1 1)
   .exact JP1.a h (Le.ty 1 1)
  .have h:=hk;refine Qae h (λhb h=>?_) (λhb h=>?_)
   .refine Qam _ _ h (λx5 hy=>((Qav 1 h0_0 h0_1_ h0_2_ x5 hy).fr [0] [] rfl rfl rfl)) (λx5 hy h=>?_);refine Qae h (λhb h=>?_) (λhb h=>?_)
    .refine Qam _ _ h (λx6 hy=>((Qao true h0_0 h0_1_ h0_2_ x6 hy).fr [0] [] rfl rfl rfl)) (λx6 hy h=>?_);refine And.intro rfl (Exists.intro _ (And.intro (List.length_map _) ?_));refine Qaj h (λo7 ho hk=>?_);refine Exists.intro (JP1 _ _ o7 .normal (Qqp p1 p2 h0_0 v7 x6)) (And.intro ?_ (Qa5 ?_))
     .have h:=ho;refine Qae h (λhb h=>?_) (λhb h=>?_)
      .refine Qx8 (l:=v7) (c:=Qab) (c' := Qbn) h rfl Qar (λ_=>rfl) (by decide) (λx8 hi h=>?_);refine And.intro rfl ?_;refine And.intro rfl (And.intro (Nat.le_of_ble_eq_true rfl) ?_);exact JP1.a h (Le.ty 1 1)
      .exact JP1.a h (Le.ty 1 1)
     .have h:=hk;refine Qae h (λhb h=>?_) (λhb h=>?_)
      .refine Qx8 (l:=v7) (c:=Qab) (c' := Qbn) h rfl Qar (λ_=>rfl) (by decide) (λx9 hi h=>?_);refine And.intro rfl ?_;refine And.intro rfl (And.intro (Nat.le_of_ble_eq_true rfl) ?_);refine Qx5 h (λh=>?_);refine Qx8 (l:=v7) (c:=Qab) (c' := Qbn) h rfl Qar (λ_=>rfl) (by decide) (λx10 hi h=>?_);refine And.intro rfl ?_;refine And.intro rfl (And.intro (Nat.le_of_ble_eq_true rfl) (And.intro rfl (And.intro rfl (Exists.intro ((v7.set ((wr ((v7.length:Int)-1)).toNat) (Qaa.mk x10.Kind x10.Name (x9.Text++x6.1.Text) x10.N x10.L x10.Then x10.Else)).map Qab) (And.intro (Qak4 (.ceq (Qar _) (.refl _))) ?_)))));refine TL.le (τ := Qb8 p1 p2 h0_0 (v7.set ((wr ((v7.length:Int)-1)).toNat) (Qaa.mk x10.Kind x10.Name (x9.Text++x6.1.Text) x10.N x10.L x10.Then x10.Else)) x6.2.1 x6.2.2) ?_ ((iQby p1 p2 (v7.set ((wr ((v7.length:Int)-1)).toNat) (Qaa.mk x10.Kind x10.Name (x9.Text++x6.1.Text) x10.N x10.L x10.Then x10.Else)) x6.2.1 x6.2.2 _ h));exact Le.trans (τ := ⟨[(0,.ptr 0 0),(1,.p (bV p1)),(2,.p (bV p2)),(7,.x 0 2 (.sl 38 7 ((v7.set ((wr ((v7.length:Int)-1)).toNat) (Qaa.mk x10.Kind x10.Name (x9.Text++x6.1.Text) x10.N x10.L x10.Then x10.Else)).map Qab)))],⟨[[.p (.sl false (h0_0.map Qaf)),.p (iV x6.2.1),.p (bV x6.2.2)]],[2]⟩⟩) (Le.ty 1 1) ((Le.ver (.s 7) 0 2 1 rfl rfl rfl rfl).trans (Le.ty 1 1))
      .refine Qx9 (a:=v7) (b:=[(Qaa.mk 8 [] x6.1.Text 0 [] [] [])]) (c:=Qab) h (.cons (.ceq (Qar _) (.cons (.refl _) (.cons (.refl _) (.cons (.refl _) (.cons (.refl _) (.cons (.not) (.cons (.not) (.cons (.not) (.nil))))))))) (.nil)) (λx=>by rw[Qar]; rfl) rfl (λx11 hi h=>?_);refine TL.le (τ := Qb8 p1 p2 h0_0 x11 x6.2.1 x6.2.2) ?_ ((iQby p1 p2 x11 x6.2.1 x6.2.2 _ h));exact Le.trans (τ := ⟨[(0,.ptr 0 0),(1,.p (bV p1)),(2,.p (bV p2)),(7,.x 0 2 (.sl 38 7 (x11.map Qab)))],⟨[[.p (.sl false (h0_0.map Qaf)),.p (iV x6.2.1),.p (bV x6.2.2)]],[2]⟩⟩) (Le.ty 1 1) ((Le.ver (.s 7) 0 2 1 rfl rfl rfl rfl).trans (Le.ty 1 1))
    .refine Qaj h (λo12 ho hk=>?_);refine Exists.intro (JP1 _ _ o12 .normal (Qqq p1 p2 h0_0 v7 h0_1_ h0_2_)) (And.intro ?_ (Qa5 ?_))
     .have h:=ho;refine Qae h (λhb h=>?_) (λhb h=>?_)
      .refine Qam _ _ h (λx13 hy=>((Qe1 [101,110,100] h0_0 h0_1_ h0_2_ x13 hy).fr [0] [] rfl rfl rfl)) (λx13 hy h=>?_);refine Qae h (λhb h=>?_) (λhb h=>?_)
       .exact JP1.a h (Le.ty 1 1)
       .refine Qae h (λhb h=>?_) (λhb h=>?_)
        .refine Qam _ _ h (λx14 hy=>((Qe1 [101,108,115,101] h0_0 h0_1_ h0_2_ x14 hy).fr [0] [] rfl rfl rfl)) (λx14 hy h=>?_);exact JP1.a h (Le.ty 1 1)
        .exact JP1.a h (Le.ty 1 1)
      .refine bF ?_;refine Qae h (λhb h=>?_) (λhb h=>?_)
       .refine Qam _ _ h (λx15 hy=>((Qe1 [101,108,115,101] h0_0 h0_1_ h0_2_ x15 hy).fr [0] [] rfl rfl rfl)) (λx15 hy h=>?_);exact JP1.a h (Le.ty 1 1)
       .exact JP1.a h (Le.ty 1 1)
     .have h:=hk;refine Qae h (λhb h=>?_) (λhb h=>?_)
      .exact JP2.b h (Le.ty 1 1)
      .refine Qam _ _ h (λx16 hy=>((Qav 2 h0_0 h0_1_ h0_2_ x16 hy).fr [0] [] rfl rfl rfl)) (λx16 hy h=>?_);refine Qam _ _ h (λx17 hy=>((Qao x16 h0_0 h0_1_ h0_2_ x17 hy).fr [0] [] rfl rfl rfl)) (λx17 hy h=>?_);refine Qam _ _ h (λx18 hy=>((Qav 3 h0_0 x17.2.1 x17.2.2 x18 hy).fr [0] [] rfl rfl rfl)) (λx18 hy h=>?_);refine Qae h (λhb h=>?_) (λhb h=>?_)
       .refine Qam _ _ h (λx19 hy=>((Qao true h0_0 x17.2.1 x17.2.2 x19 hy).fr [0] [] rfl rfl rfl)) (λx19 hy h=>?_);refine TL.le (τ := Qb8 p1 p2 h0_0 v7 x19.2.1 x19.2.2) ?_ ((iQby p1 p2 v7 x19.2.1 x19.2.2 _ h));exact Le.ty 1 1
       .refine Qam _ _ h (λx20 hy=>((iQge x17.2.1 x17.2.2 x20 hy).fr [0] [] rfl rfl rfl)) (λx20 hy h=>?_);refine Qx9 (a:=v7) (b:=[x20.1]) (c:=Qab) h (.cons (.ceq (Qar _) (.refl _)) (.nil)) (λx=>by rw[Qar]; rfl) rfl (λx21 hi h=>?_);refine TL.le (τ := Qb8 p1 p2 h0_0 x21 x20.2.1 x20.2.2) ?_ ((iQby p1 p2 x21 x20.2.1 x20.2.2 _ h));exact Le.trans (τ := ⟨[(0,.ptr 0 0),(1,.p (bV p1)),(2,.p (bV p2)),(7,.x 0 2 (.sl 38 7 (x21.map Qab)))],⟨[[.p (.sl false (h0_0.map Qaf)),.p (iV x20.2.1),.p (bV x20.2.2)]],[2]⟩⟩) (Le.ty 1 1) ((Le.ver (.s 7) 0 2 1 rfl rfl rfl rfl).trans (Le.ty 1 1))
   .exact JP2.a h (Le.ty 1 1)
 .intro Qb1' iQb1 h0_1 h0_2 o h;refine CallOK.ofB mixed tbOk Qrr Tryz.func146 rfl (by kernel_rfl) (Nat.le_of_ble_eq_true rfl) rfl rfl rfl ?_;refine Qam _ _ h (λx1 hy=>((Qbj [105,102] h0_0 h0_1 h0_2 x1 hy).fr [0] [] rfl rfl rfl)) (λx1 hy h=>?_);refine Qae h (λhb h=>?_) (λhb h=>?_)
  .refine Qam _ _ h (λx2 hy=>((Qao true h0_0 h0_1 h0_2 x2 hy).fr [0] [] rfl rfl rfl)) (λx2 hy h=>?_);refine Qam _ _ h (λx3 hy=>((Qh2 h0_0 x2.2.1 x2.2.2 x3 hy).fr [0] [] rfl rfl rfl)) (λx3 hy h=>?_);refine Qam _ _ h (λx4 hy=>((Qe2 h0_0 x3.2.1 x3.2.2 x4 hy).fr [0] [] rfl rfl rfl)) (λx4 hy h=>?_);refine Qam _ _ h (λx5 hy=>((iQb1 true true x4.1 x4.2 x5 hy).fr [0] [] rfl rfl rfl)) (λx5 hy h=>?_);refine Qaj h (λo6 ho hk=>?_);refine Exists.intro (JP1 _ _ o6 .normal (Qpm h0_0 x3 x5)) (And.intro ?_ (Qa5 ?_))
   .have h:=ho;refine Qam _ _ h (λx7 hy=>((Qe1 [101,108,115,101] h0_0 x5.2.1 x5.2.2 x7 hy).fr [0] [] rfl rfl rfl)) (λx7 hy h=>?_);refine Qae h (λhb h=>?_) (λhb h=>?_)
    .refine Qam _ _ h (λx8 hy=>((Qja [101,108,115,101] h0_0 x5.2.1 x5.2.2 x8 hy).fr [0] [] rfl rfl rfl)) (λx8 hy h=>?_);refine Qam _ _ h (λx9 hy=>((iQb1 true false x8.1 x8.2 x9 hy).fr [0] [] rfl rfl rfl)) (λx9 hy h=>?_);refine JP1.a h ?_;exact Le.tow 3 0 rfl (.cons rfl (.refl _) (.cons rfl (.refl _) (.cons rfl (.refl _) (.nil)))) (.cons (.refl _) (.cons (.refl _) (.cons (.cons (.refl _) (.cons (.refl _) (.cons (.refl _) (.cons (.refl _) (.cons (.p (.sl' (λh=>h) (.cons (.ceq (Qar _) (.refl _)) (.nil)))) (.cons (.refl _) (.cons (.refl _) (.nil)))))))) (.nil)))) rfl
    .refine JP1.a h ?_;exact Le.tow 3 0 rfl (.cons rfl (.refl _) (.cons rfl (.refl _) (.cons rfl (.refl _) (.nil)))) (.cons (.refl _) (.cons (.refl _) (.cons (.cons (.refl _) (.cons (.refl _) (.cons (.refl _) (.cons (.refl _) (.cons (.p (.sl' (λh=>h) (.cons (.ceq (Qar _) (.refl _)) (.nil)))) (.cons (.refl _) (.cons (.p (.not)) (.nil)))))))) (.nil)))) rfl
   .have h:=hk;refine Qam _ _ h (λx10 hy=>((Qja [101,110,100] h0_0 o6.1 o6.2.1 x10 hy).fr [0] [] rfl rfl rfl)) (λx10 hy h=>?_);refine Exists.intro _ (And.intro (Le.refl _ _ _) ?_);exact Qb2 (t:=Qex) (ss:=λo=>⟨[[.p (.sl false (h0_0.map Qaf)),.p (iV o.2.1),.p (bV o.2.2)]],[]⟩) h ⟨[],rfl,.p (.agg' (.cons (.refl _) (.cons (.refl _) (.cons (.refl _) (.cons (.refl _) (.cons (.not) (.cons (.refl _) (.cons (.refl _) (.nil))))))))),.refl _,rfl⟩
  .refine Qaj h (λo11 ho hk=>?_);refine Exists.intro (JP1 _ _ o11 .normal (Qpn h0_0 h0_1 h0_2)) (And.intro ?_ (Qa5 ?_))
   .have h:=ho;refine Qam _ _ h (λx12 hy=>((Qbj [101,97,99,104] h0_0 h0_1 h0_2 x12 hy).fr [0] [] rfl rfl rfl)) (λx12 hy h=>?_);refine Qae h (λhb h=>?_) (λhb h=>?_)
    .exact JP1.a h (Le.ty 2 0)
    .refine Qam _ _ h (λx13 hy=>((Qbj [108,101,116] h0_0 h0_1 h0_2 x13 hy).fr [0] [] rfl rfl rfl)) (λx13 hy h=>?_);exact JP1.a h (Le.ty 2 0)
   .have h:=hk;refine Qae h (λhb h=>?_) (λhb h=>?_)
    .refine Qaj h (λo14 ho hk=>?_);refine Exists.intro (JP1 _ _ o14 .normal (Qpo h0_0 h0_1 h0_2)) (And.intro ?_ (Qa5 ?_))
     .have h:=ho;refine Qam _ _ h (λx15 hy=>((Qbj [108,101,116] h0_0 h0_1 h0_2 x15 hy).fr [0] [] rfl rfl rfl)) (λx15 hy h=>?_);refine Qae h (λhb h=>?_) (λhb h=>?_)
      .exact JP1.a h (Le.ty 3 0)
      .exact JP1.a h (Le.ty 3 0)
     .have h:=hk;refine Qam _ _ h (λx16 hy=>((Qao true h0_0 h0_1 h0_2 x16 hy).fr [0] [] rfl rfl rfl)) (λx16 hy h=>?_);refine Qam _ _ h (λx17 hy=>((Qh1 h0_0 x16.2.1 x16.2.2 x17 hy).fr [0] [] rfl rfl rfl)) (λx17 hy h=>?_);refine Qaj h (λo18 ho hk=>?_);refine Exists.intro (JP1 _ _ o18 .normal (Qpp h0_0 o14 x17)) (And.intro ?_ (Qa5 ?_))
      .have h:=ho;refine Qae h (λhb h=>?_) (λhb h=>?_)
       .refine Qam _ _ h (λx19 hy=>((Qbj [105,110] h0_0 x17.2.1 x17.2.2 x19 hy).fr [0] [] rfl rfl rfl)) (λx19 hy h=>?_);refine Qam _ _ h (λx20 hy=>((Qao x19 h0_0 x17.2.1 x17.2.2 x20 hy).fr [0] [] rfl rfl rfl)) (λx20 hy h=>?_);exact JP1.a h (Le.ty 3 0)
       .refine Qam _ _ h (λx21 hy=>((Qav 11 h0_0 x17.2.1 x17.2.2 x21 hy).fr [0] [] rfl rfl rfl)) (λx21 hy h=>?_);refine Qam _ _ h (λx22 hy=>((Qao x21 h0_0 x17.2.1 x17.2.2 x22 hy).fr [0] [] rfl rfl rfl)) (λx22 hy h=>?_);exact JP1.a h (Le.ty 3 0)
      .have h:=hk;refine Qam _ _ h (λx23 hy=>((Qh2 h0_0 o18.1 o18.2 x23 hy).fr [0] [] rfl rfl rfl)) (λx23 hy h=>?_);refine Qam _ _ h (λx24 hy=>((Qe2 h0_0 x23.2.1 x23.2.2 x24 hy).fr [0] [] rfl rfl rfl)) (λx24 hy h=>?_);refine Qam _ _ h (λx25 hy=>((iQb1 true false x24.1 x24.2 x25 hy).fr [0] [] rfl rfl rfl)) (λx25 hy h=>?_);refine Qam _ _ h (λx26 hy=>((Qja [101,110,100] h0_0 x25.2.1 x25.2.2 x26 hy).fr [0] [] rfl rfl rfl)) (λx26 hy h=>?_);refine Exists.intro _ (And.intro (Le.refl _ _ _) ?_);exact Qb2 (t:=Qex) (ss:=λo=>⟨[[.p (.sl false (h0_0.map Qaf)),.p (iV o.2.1),.p (bV o.2.2)]],[]⟩) h ⟨[],rfl,.p (.agg' (.cons (.refl _) (.cons (.refl _) (.cons (.refl _) (.cons (.refl _) (.cons (.no (.cons (.ceq (Qar _) (.refl _)) (.nil))) (.cons (.refl _) (.cons (.not) (.nil))))))))),.refl _,rfl⟩
    .refine Qaj h (λo27 ho hk=>?_);refine Exists.intro (JP1 _ _ o27 .normal (Qpq h0_0)) (And.intro ?_ (Qa5 ?_))
     .have h:=ho;refine Qam _ _ h (λx28 hy=>((Qbj [117,115,101] h0_0 h0_1 h0_2 x28 hy).fr [0] [] rfl rfl rfl)) (λx28 hy h=>?_);refine Qae h (λhb h=>?_) (λhb h=>?_)
      .refine Qam _ _ h (λx29 hy=>((Qao true h0_0 h0_1 h0_2 x29 hy).fr [0] [] rfl rfl rfl)) (λx29 hy h=>?_);refine Qam _ _ h (λx30 hy=>((Qh1 h0_0 x29.2.1 x29.2.2 x30 hy).fr [0] [] rfl rfl rfl)) (λx30 hy h=>?_);exact JP1.a h (Le.ty 3 0)
      .exact JP1.a h (Le.ty 3 0)
     .have h:=hk;refine Qam _ _ h (λx31 hy=>((Qh2 h0_0 o27.1 o27.2.1 x31 hy).fr [0] [] rfl rfl rfl)) (λx31 hy h=>?_);refine Qam _ _ h (λx32 hy=>((Qe2 h0_0 x31.2.1 x31.2.2 x32 hy).fr [0] [] rfl rfl rfl)) (λx32 hy h=>?_);refine Exists.intro _ (And.intro (Le.refl _ _ _) ?_);exact Qb2 (t:=Qex) (ss:=λo=>⟨[[.p (.sl false (h0_0.map Qaf)),.p (iV o.2.1),.p (bV o.2.2)]],[]⟩) h ⟨[],rfl,.p (.agg' (.cons (.refl _) (.cons (.refl _) (.cons (.refl _) (.cons (.refl _) (.cons (.no (.cons (.ceq (Qar _) (.refl _)) (.nil))) (.cons (.not) (.cons (.not) (.nil))))))))),.refl _,rfl⟩
theorem Qs4:∀ (p1:Bool) (p2:Bool) (h0_0:(List Qag)) (h0_1:Int) (h0_2:Bool) (o:(List Qaa)×Int×Bool),Qb1 p1 p2 h0_0 h0_1 h0_2=some o->CallOK Tryz.prog 116 [.ptr 0 0,.p (bV p1),.p (bV p2)] ⟨[[.p (.sl false (h0_0.map Qaf)),.p (iV h0_1),.p (bV h0_2)]],[]⟩ (Qfm o) ⟨[[.p (.sl false (h0_0.map Qaf)),.p (iV o.2.1),.p (bV o.2.2)]],[]⟩:=λp1 p2 h0_0 h0_1 h0_2=>(Qrv h0_0).1 p1 p2 h0_1 h0_2
def Qnv (p0:(List UInt8)):Option ((List Qaa)×Int×Int) :=
 Qk9 p0>>=λx1 =>
 if(x1.2.2 != 0) then
  some ([],x1.2.1,x1.2.2)
 else
  Qb1 false false x1.1 0 false>>=λx2 =>
  if x2.2.2 then
   if(decide (x2.2.1<(x1.1.length:Int))) then
    idx x1.1 x2.2.1>>=λx3 =>
    some ([],x3.From,7)
   else
    some ([],(p0.length:Int),7)
  else
   Qdo x2.1>>=λx4 =>
   if(decide (x4>1024)) then
    some ([],0,5)
   else
    Qep x2.1>>=λx5 =>
    if(decide (x5>12)) then
     some ([],0,8)
    else
     some (x2.1,0,0)
theorem Q70:∀ (p0:(List UInt8)) (o:(List Qaa)×Int×Int),Qnv p0=some o->PCall Tryz.prog 84 [sV p0] (Qfw o):=by
 intro p0 o h;unfold Qnv at h;refine PCall.ofY Q7y Tryz.func84 ?_;refine Qas [sV p0] Qj1 h (λx1 hy=>(Q4p p0 x1 hy)) (λx1 hy h=>?_);refine Qae h (λhb h=>?_) (λhb h=>?_)
 .refine Qan (t:=Qfw) h ?_;exact .tup (xs:=[.sl true [],iV x1.2.1,iV x1.2.2]) (ys:=[.sl false [],iV x1.2.1,iV x1.2.2]) (.cons (.not) (.cons (.refl _) (.cons (.refl _) (.nil))))
 .refine Qam _ _ h (λx2 hy=>((Qs4 false false x1.1 0 false x2 hy).fr [0] [] rfl rfl rfl)) (λx2 hy h=>?_);refine Qae h (λhb h=>?_) (λhb h=>?_)
  .refine view (Qcz _ _) rfl ?_;refine Qae h (λhb h=>?_) (λhb h=>?_)
   .refine And.intro (by decide +kernel) (And.intro rfl ?_);refine Qbu (l:=x1.1) (c:=Qaf) (c' := Qaf) h (λ_=>rfl) (λ_=>rfl) (by decide) (λx3 hi h=>?_);refine Qan (t:=Qfw) h ?_;exact .tup (xs:=[.sl true [],iV x3.From,iV 7]) (ys:=[.sl false [],iV x3.From,iV 7]) (.cons (.not) (.cons (.refl _) (.cons (.refl _) (.nil))))
   .refine vrfl ?_;refine Qan (t:=Qfw) h ?_;exact .tup (xs:=[.sl true [],iV (p0.length:Int),iV 7]) (ys:=[.sl false [],iV (p0.length:Int),iV 7]) (.cons (.not) (.cons (.refl _) (.cons (.refl _) (.nil))))
  .refine Qas [.sl false (x2.1.map Qab)] Qgy h (λx4 hy=>(Q7a x2.1 x4 hy)) (λx4 hy h=>?_);refine Qae h (λhb h=>?_) (λhb h=>?_)
   .refine Qan (t:=Qfw) h ?_;exact .tup (xs:=[.sl true [],iV 0,iV 5]) (ys:=[.sl false [],iV 0,iV 5]) (.cons (.not) (.cons (.refl _) (.cons (.refl _) (.nil))))
   .refine Qas [.sl false (x2.1.map Qab)] Qiu h (λx5 hy=>(Q9p x2.1 x5 hy)) (λx5 hy h=>?_);refine Qae h (λhb h=>?_) (λhb h=>?_)
    .refine Qan (t:=Qfw) h ?_;exact .tup (xs:=[.sl true [],iV 0,iV 8]) (ys:=[.sl false [],iV 0,iV 8]) (.cons (.not) (.cons (.refl _) (.cons (.refl _) (.nil))))
    .refine Qan (t:=Qfw) h ?_;exact .refl _
def Qb7 (p0:(List Qak)):Option ((List Qak)) :=
 appL 32 [] p0
theorem Qh3:∀ (p0:(List Qak)) (o:(List Qak)),Qb7 p0=some o->CallOK Tryz.prog 88 [.p (.sl false (p0.map Qbc))] ⟨[],[]⟩ (Qcp o) ⟨[],[1]⟩:=by
 intro p0 o h;unfold Qb7 at h;have h:(appL 32 ([]:List Qak) p0>>=λr=>some r)=some o:=by rw[h]; rfl
 refine CallOK.ofB mixed tbOk Qh0 Tryz.func88 rfl (by kernel_rfl) (Nat.le_of_ble_eq_true rfl) rfl rfl rfl ?_;refine⟨rfl,rfl,rfl,λb hb=>?_⟩;cases b with
 | true =>
  refine bT ?_;obtain rfl:=List.map_eq_nil_iff.1 (hb rfl);have h:some ([]:List Qak)=some o:=h;refine Exists.intro _ (And.intro (Le.xnil (.s 2) 46 3 rfl) ?_);exact Qb2 (t:=Qcp) (ss:=λo=>⟨[],[1]⟩) h ⟨[0],rfl,.refl _,.refl _,rfl⟩
 | false =>
  refine bF ?_;refine Qaba (a:=([]:List Qak)) (b:=p0) (c:=Qbc) h (.refl _) (.refl _) (λ_=>rfl) (.inl rfl) (λr hi h=>?_);refine Exists.intro _ (And.intro (Le.refl _ _ _) ?_);exact Qb2 (t:=Qcp) (ss:=λo=>⟨[],[1]⟩) h ⟨[0],rfl,.refl _,.refl _,rfl⟩
instance Qzh:Lean.Order.CCPO ((List UInt8)->Bool->(List (Qa9×Int))->Option (((List UInt8)×Bool×(List (Qa9×Int)))⊕((List UInt8)×Bool×(List (Qa9×Int))))):=inferInstance
instance Qzi:Lean.Order.CCPO ((List Qaa)->(List Qak)->Int->(List UInt8)->Bool->(List (Qa9×Int))->Option (((List UInt8)×Bool×(List (Qa9×Int)))⊕((List UInt8)×Bool×(List (Qa9×Int))))):=inferInstance
instance Qzu:Lean.Order.CCPO (Bool->(List (Qa9×Int))->Int->Option ((List UInt8)×Bool×(List (Qa9×Int))×Int)):=inferInstance
instance Qzv:Lean.Order.CCPO ((List Qaa)->(List Qak)->(List UInt8)->Bool->(List (Qa9×Int))->Int->Option ((List UInt8)×Bool×(List (Qa9×Int))×Int)):=inferInstance
instance Qwj:Lean.Order.CCPO (Bool->(List (Qa9×Int))->Int->Option (((List UInt8)×Bool×(List (Qa9×Int))×Int)⊕((List UInt8)×Bool×(List (Qa9×Int))×Int))):=inferInstance
instance Qwk:Lean.Order.CCPO ((List Qak)->Int->(List UInt8)->Bool->(List (Qa9×Int))->Int->Option (((List UInt8)×Bool×(List (Qa9×Int))×Int)⊕((List UInt8)×Bool×(List (Qa9×Int))×Int))):=inferInstance
end Go.Proofs.YtfgegilhjlnohaaGreat
end

noncomputable section
namespace Go.Proofs.YtfgegilhjlnohaaGreat
open Go.RowKit
set_option linter.unusedSimpArgs false
set_option linter.unusedVariables false
def bndP(l:List Qak)(s:Nm):Bool:=match l.reverse.find? (·.Name==s) with | none=>false | some b=>b.Secret
mutual
def secN:Qaa->List Qak->Bool
 | ⟨k,s,_,_,a,_,_⟩,l=>if k==7 then true else if k==4 then bndP l s else if k==5||k==6 then secL a l else false
def secL:List Qaa->List Qak->Bool
 | [],_=>false
 | x::r,l=>secN x l||secL r l
end
theorem Qabq{α : Type}(l:List α)(k:Nat)(hk:k<l.length):(l.take (k+1)).reverse=l[k]::(l.take k).reverse:=by
 rw[List.take_succ_eq_append_getElem hk,List.reverse_append]; rfl
def Qac6(k:Int)(nm:Nm)(s:Bool)(bs:List Qak):List Qak:=if k==11 then bs++[⟨nm,0,false⟩] else if k==12 then bs++[⟨nm,0,s⟩] else bs
def hdS(a:List Qaa)(bs:List Qak):Bool:=match a with | []=>false | y::_=>secN y bs
abbrev Q0x:Qfv:=⟨[],false,false⟩
mutual
def stS(U:Nm->Bool->Qfv)(w:Nm):Qaa->List Qak->Qfv
 | ⟨k,nm,_,_,a,t,e⟩,bs =>
  if k==8 then Q0x else
  if hdS a bs&&(k==10||k==11) then⟨w,true,false⟩ else
  if(blS U w t (Qac6 k nm (hdS a bs) bs)).Bad then blS U w t (Qac6 k nm (hdS a bs) bs) else
  if(blS U w e bs).Bad then blS U w e bs else
  if(if k==13 then U nm (hdS a bs) else Q0x).Bad then U nm (hdS a bs) else
  ⟨[],false,(k==9&&hdS a bs)||((blS U w t (Qac6 k nm (hdS a bs) bs)).Tells||((blS U w e bs).Tells||(if k==13 then U nm (hdS a bs) else Q0x).Tells))⟩
def blS(U:Nm->Bool->Qfv)(w:Nm):List Qaa->List Qak->Qfv
 | [],_=>Q0x
 | x::r,bs=>if(stS U w x bs).Bad then stS U w x bs else if(blS U w r bs).Bad then blS U w r bs else⟨[],false,(stS U w x bs).Tells||(blS U w r bs).Tells⟩
end
theorem Qaii(U:Nm->Bool->Qfv)(w:Nm)(x:Qaa)(bs:List Qak):stS U w x bs =
  if x.Kind==8 then Q0x else
  if hdS x.L bs&&(x.Kind==10||x.Kind==11) then⟨w,true,false⟩ else
  if(blS U w x.Then (Qac6 x.Kind x.Name (hdS x.L bs) bs)).Bad then blS U w x.Then (Qac6 x.Kind x.Name (hdS x.L bs) bs) else
  if(blS U w x.Else bs).Bad then blS U w x.Else bs else
  if(if x.Kind==13 then U x.Name (hdS x.L bs) else Q0x).Bad then U x.Name (hdS x.L bs) else
  ⟨[],false,(x.Kind==9&&hdS x.L bs)||((blS U w x.Then (Qac6 x.Kind x.Name (hdS x.L bs) bs)).Tells||((blS U w x.Else bs).Tells||(if x.Kind==13 then U x.Name (hdS x.L bs) else Q0x).Tells))⟩:=by cases x; rw[stS]
theorem Qamx{U V:Nm->Bool->Qfv}(w:Nm):∀ n (l:List Qaa) (bs:List Qak),nns l<=n->(∀ u ∈ usL l,∀ b,U u b=V u b)->blS U w l bs=blS V w l bs:=by
 intro n
 induction n with
 | zero =>
  intro l bs h _;cases l with
  | nil=>rw[blS,blS]
  | cons x r=>rw[nns] at h; have:=Qkv x; omega
 | succ n ih =>
  intro l
  induction l with
  | nil=>intro bs _ _; rw[blS,blS]
  | cons x r ihr =>
   intro bs h hU;rw[nns] at h;have e:=Qi3 x;have h1:∀ u ∈ usL x.Then,∀ b,U u b=V u b:=λu hu=>hU u (by rw[usL,Qj0]; simp[hu])
   have h2:∀ u ∈ usL x.Else,∀ b,U u b=V u b:=λu hu=>hU u (by rw[usL,Qj0]; simp[hu])
   have h3:∀ b,(if x.Kind==13 then U x.Name b else Q0x)=(if x.Kind==13 then V x.Name b else Q0x):=λb=>by
    split
    .rename_i hk;exact hU x.Name (by rw[usL,Qj0,if_pos hk]; simp) b
    .rfl
   have hs:stS U w x bs=stS V w x bs:=by
    rw[Qaii,Qaii,ih x.Then _ (by omega) h1,ih x.Else _ (by omega) h2,h3];split
    .rfl
    .split
     .rfl
     .split
      .rfl
      .split
       .rfl
       .by_cases hk:x.Kind==13
        .rw[if_pos hk,hU x.Name (by rw[usL,Qj0,if_pos hk]; simp)]
        .rw[if_neg hk]; rfl
   rw[blS,blS,hs,ihr bs (by omega) λu hu=>hU u (by rw[usL]; simp[hu])]
def itB(b:Bool):List Qak:=[⟨[103,114,111,117,112],0,false⟩,⟨[105,116],0,b⟩]
def uF(l:List Qad):Nat->Nm->Bool->Qfv
 | 0,_,_=>Q0x
 | n+1,s,b=>blS (uF l n) s (Qhl l s).1 (itB b)
def uS(l:List Qad)(s:Nm)(b:Bool):Qfv:=uF l ((reaP l s).length+1) s b
theorem Qve{l:List Qad}{s u:Nm}(h:u ∈ usL (Qhl l s).1):u ∈ suc l s:=by
 rw[<-Qabn]; exact Qew.2 h
mutual
def goN:Qaa->Prop
 | ⟨k,_,_,_,a,t,e⟩=>(k≠8->a.length=1)/\(k=13\/k=9->t=[]/\e=[])/\goL t/\goL e
def goL:List Qaa->Prop
 | []=>True
 | x::r=>goN x/\goL r
end
theorem Qafx(x:Qaa):goN x↔(x.Kind≠8->x.L.length=1)/\(x.Kind=13\/x.Kind=9->x.Then=[]/\x.Else=[])/\goL x.Then/\goL x.Else:=by cases x; rw[goN]
theorem Q9v:∀ {l:List Qaa} {x:Qaa},x ∈ l->goL l->goN x
 | y::r,x,h,hg=>by
  rw[goL] at hg;rcases List.mem_cons.1 h with rfl | h
  .exact hg.1
  .exact Q9v h hg.2
theorem Qahp:∀ n (l:List Qaa) (b:Bool),nns l<=n->Qbl l b=true->goL l:=by
 intro n
 induction n with
 | zero =>
  intro l b h _;cases l with
  | nil=>rw[goL]; trivial
  | cons x r=>rw[nns] at h; have:=Qkv x; omega
 | succ n ih =>
  intro l
  induction l with
  | nil=>intro _ _ _; rw[goL]; trivial
  | cons x r ihr =>
   intro b h hb;rw[nns] at h;have e:=Qi3 x;rw[Qbl,Bool.and_eq_true,Bool.and_eq_true] at hb;rw[goL];refine⟨?_,ihr b (by omega) hb.2.2⟩;have hs:=hb.1;rw[Qjh] at hs;rw[Qafx];have nilg:goL []:=by rw[goL]; trivial
   by_cases h8:x.Kind=8
   .rw[if_pos (by simpa using h8)] at hs;simp only[Bool.and_eq_true] at hs;have hT:=Qty hs.2.2.2.2.2.1;have hE:=Qty hs.2.2.2.2.2.2;rw[hT,hE];exact⟨λk=>absurd h8 k,λ_=>⟨rfl,rfl⟩,nilg,nilg⟩
   .rw[if_neg (by simpa using h8)] at hs;by_cases h9:x.Kind=9
    .rw[if_pos (by simpa using h9)] at hs;simp only[Bool.and_eq_true,beq_iff_eq] at hs;have hT:=Qty hs.2.2.2.2.1;have hE:=Qty hs.2.2.2.2.2;rw[hT,hE];exact⟨λ_=>hs.1.1,λ_=>⟨rfl,rfl⟩,nilg,nilg⟩
    .rw[if_neg (by simpa using h9)] at hs;by_cases h10:x.Kind=10
     .rw[if_pos (by simpa using h10)] at hs;simp only[Bool.and_eq_true,beq_iff_eq] at hs;exact⟨λ_=>hs.1.1,λk=>by rcases k with k | k<;>(rw[h10] at k; cases k),ih _ true (by omega) hs.2.1.1,ih _ true (by omega) hs.2.1.2⟩
     .rw[if_neg (by simpa using h10)] at hs;by_cases h11:(x.Kind==11||x.Kind==12)=true
      .rw[if_pos h11] at hs;simp only[Bool.and_eq_true,beq_iff_eq] at hs;have hE:=Qty hs.2.2.2.2.2;rw[hE];exact⟨λ_=>hs.2.1.1,λk=>by
        rw[Bool.or_eq_true,beq_iff_eq,beq_iff_eq] at h11;omega,ih _ true (by omega) hs.2.2.1,nilg⟩
      .rw[if_neg h11] at hs;by_cases h13:x.Kind=13
       .rw[if_pos (by simpa using h13)] at hs;simp only[Bool.and_eq_true,beq_iff_eq] at hs;have hT:=Qty hs.2.2.2.2.1;have hE:=Qty hs.2.2.2.2.2;rw[hT,hE];exact⟨λ_=>hs.2.1.1,λ_=>⟨rfl,rfl⟩,nilg,nilg⟩
       .rw[if_neg (by simpa using h13)] at hs;cases hs
theorem Qzj{l:List Qad}(hf:fine l)(s:Nm):goL (Qhl l s).1:=by
 unfold Qhl;cases hq:fndT l s with
 | none=>show goL []; rw[goL]; trivial
 | some x =>
  have:=hf.fit x (List.mem_of_find?_eq_some hq);unfold fitT isP at this;simp only[Bool.and_eq_true] at this;exact Qahp _ x.L false (Nat.le_refl _) this.2.2.2
theorem Quc{l:List Qad}(ho:okTs l)(s:Nm):nns (Qhl l s).1<=100:=by
 unfold Qhl;cases hq:fndT l s with
 | none=>simp[nns]
 | some x=>exact ho.nn x (List.mem_of_find?_eq_some hq)
theorem Qs5:∀ {q:List Qaa} {x:Qaa},x ∈ q->∀ v ∈ usN x,v ∈ usL q
 | z::q,x,hx,v,hv=>by
  rw[usL,List.mem_append];rcases List.mem_cons.1 hx with rfl | hx
  .exact .inl hv
  .exact .inr (Qs5 hx v hv)
end Go.Proofs.YtfgegilhjlnohaaGreat
end
