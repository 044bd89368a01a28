/- Part 5 of 12. -/
import Derived.Test.YtfgegilhjlnohaaGreatMgInferWide4
import Derived.RangeFuncNested

noncomputable section
namespace Go.Proofs.YtfgegilhjlnohaaGreat
open Go.RowKit
set_option linter.unusedSimpArgs false
set_option linter.unusedVariables false
def Qn9:List Oper->List Nat->List Nat
 | [],acc=>acc
 | o::r,acc=>match o.dst,o.op with
  | some t,.alloc _=>Qn9 r (t::acc)
  | some t,.box _ _=>Qn9 r (t::acc)
  | some t,.fieldAddr _ (.tmp x) _=>Qn9 r (if acc.contains x then t::acc else acc)
  | some t,.indexAddr _ (.tmp x) _=>Qn9 r (if acc.contains x then t::acc else acc)
  | some t,.nilCheck (.tmp x)=>Qn9 r (if acc.contains x then t::acc else acc)
  | some t,.move (.tmp x)=>Qn9 r (if acc.contains x then t::acc else acc)
  | _,_=>Qn9 r acc
def isFr(ops:List Oper)(i:Nat):Bool:=match ops[i]? with
 | some o=>match o.op with
  | .load _ (.tmp x)=>(Qn9 ops []).contains x
  | .store _ (.tmp x) _=>(Qn9 ops []).contains x
  | _=>false
 | none=>false
def Qaiy(hvl:List Nat)(ops:List Oper)(i:Nat):Bool:=isFr ops i||hvl.contains (1000+i)
def rMk(hvl:List Nat)(i:Nat):Bool:=hvl.contains (2000+i)
structure Fl2 where
 rd:Bool
 wr:Bool
 nu:Bool
 tk:Bool
def Qdl(hv fr:Bool):Op->Fl2
 | .load _ _=>⟨!fr,false,fr,false⟩
 | .store _ _ _=>⟨!fr,!fr,fr,false⟩
 | .alloc _ | .box _ _=>⟨false,false,true,false⟩
 | .call c=>match c.callee with
  | .builtin .append=>⟨false,false,false,true⟩
  | .value _=>if hv&&fr then⟨false,false,true,true⟩ else if fr then⟨true,false,false,true⟩ else⟨true,hv,false,hv⟩
  | _=>⟨false,false,false,false⟩
 | _=>⟨false,false,false,false⟩
theorem Qxx(hv fr:Bool)(o:Op)(h:(Qdl hv fr o).wr=true):(Qdl hv fr o).rd=true:=by
 revert h;unfold Qdl;split
 .exact λh=>by cases h
 .exact λh=>h
 .exact λh=>by cases h
 .exact λh=>by cases h
 .split
  .exact λh=>by cases h
  .split
   .exact λh=>by cases h
   .split
    .exact λh=>by cases h
    .exact λ_=>rfl
  .exact λh=>by cases h
 .exact λh=>by cases h
def okP(base:Nat)(fr:Bool):Option D->Bool
 | some (.ptr nm _)=>Nat.ble base nm==fr
 | _=>true
structure Qach (base:Nat) (P:Program) (f:FuncId) (args:List D) (s:S) (r:D) (s' : S):Prop where
 eq:s' = s
 quiet:∀ (heap:List (List D)) live,base<=heap.length->heap.take base=s.heap.take base->CallOK P f args ⟨heap,live⟩ r ⟨heap,live⟩
structure Qam2 (base:Nat) (P:Program) (f:FuncId) (args:List D) (s:S) (r:D) (s' : S):Prop where
 len:base<=s'.heap.length
 eq:s'.heap.take base=s.heap.take base
 ok:∀ (heap:List (List D)),base<=heap.length->heap.drop base=s.heap.drop base->CallOK P f args ⟨heap,s.live⟩ r ⟨heap.take base++s'.heap.drop base,s'.live⟩
structure Qam3 (base:Nat) (P:Program) (f:FuncId) (args:List D) (s:S) (r:D) (s' : S):Prop where
 eq:s'.heap=s.heap
 quiet:∀ (heap:List (List D)),base<=heap.length->heap.take base=s.heap.take base->CallOK P f args ⟨heap,s.live⟩ r ⟨heap,s'.live⟩
structure Qagz (base:Nat) (P:Program) (f:FuncId) (args:List D) (s:S) (r:D) (s' : S):Prop where
 len:base<=s'.heap.length
 eq:s'.heap.drop base=s.heap.drop base
 ok:∀ (heap:List (List D)),base<=heap.length->heap.take base=s.heap.take base->CallOK P f args ⟨heap,s.live⟩ r ⟨s'.heap.take base++heap.drop base,s'.live⟩
def Qr0(hv fr:Bool)(base:Nat)(P:Program)(c:Call)(e:Operand->Option D)(s:S)(K:D->S->Prop):Prop :=
 match c.callee with
 | .value f=>match e f,evs e c.args.toList with
  | some (.fn (.func g) first cap),some ds=>match hv with
   | true=>match fr with
    | true=>∃ r s', Qam2 base P g ((first++ds++cap).map dn) s r s' /\ K r s'
    | false=>∃ r s', Qagz base P g ((first++ds++cap).map dn) s r s' /\ K r s'
   | false=>match fr with
    | true=>∃ r s', Qam3 base P g ((first++ds++cap).map dn) s r s' /\ K r s'
    | false=>∃ r s', Qach base P g ((first++ds++cap).map dn) s r s' /\ K r s'
  | _,_=>False
 | _=>False
def Q27:Op->Option Operand
 | .load _ x=>some x
 | .store _ x _=>some x
 | _=>none
section
variable {P:Program} {tb:Tbl}
def Qrm(base:Nat)(hv fr:Bool)(P:Program)(tb:Tbl)(o:Op)(e:Operand->Option D)(s:S)(K:D->S->Prop):Prop :=
 match Qbk o with
 | some c=>Qr0 hv fr base P c e s K
 | none=>match Q27 o with
  | some x=>match okP base fr (e x) with
   | true=>Qrl false P tb o e s K
   | false=>False
  | none=>Qrl false P tb o e s K
theorem Qaiz{base:Nat}{hv fr:Bool}{o:Op}{e:Operand->Option D}{s:S}{K:D->S->Prop}(hb:base<=s.heap.length)(h:Qrm base hv fr P tb o e s K):Qrl true P tb o e s K:=by
 have key:Qbk o=none->Qrl false P tb o e s K->Qrl true P tb o e s K:=λhc h=>by
  unfold Qrl Qf5 at h ⊢;rw[hc] at h ⊢;exact h
 unfold Qrm at h;split at h
 .rename_i c hc;have hv' : Qaap o=false:=by
   cases o with
   | call c' =>
    simp only[Qbk] at hc;split at hc
    .rename_i f hf; simp[Qaap,hf]
    .cases hc
   | _=>cases hc
  have e1:∀ K d (s:S),vw o K d s=K d s:=λK d s=>by unfold vw; rw[hv']
  unfold Qrl Qf5;rw[hc];unfold Qr0 at h;unfold Q5z;split at h
  .rename_i f hf;split at h
   .rename_i g first cap ds h1 h2
    simp only[hf,h1,h2];split at h
    .split at h
     .obtain⟨r,s', hr,hk⟩:=h;have:=hr.ok s.heap hb rfl;rw[<-hr.eq,List.take_append_drop] at this;exact⟨r,s', ⟨this,λh=>by cases h⟩,by rw[e1]; exact hk⟩
     .obtain⟨r,s', hr,hk⟩:=h;have:=hr.ok s.heap hb rfl;rw[<-hr.eq,List.take_append_drop] at this;exact⟨r,s', ⟨this,λh=>by cases h⟩,by rw[e1]; exact hk⟩
    .split at h
     .obtain⟨r,s', hr,hk⟩:=h;have:=hr.quiet s.heap hb rfl;have e2:s' = ⟨s.heap,s'.live⟩:=by rw[<-hr.eq]
      exact⟨r,s', ⟨by rw[e2]; exact this,λh=>by cases h⟩,by rw[e1]; exact hk⟩
     .obtain⟨r,s', hr,hk⟩:=h;have:=hr.eq;subst this;exact⟨r,s', ⟨hr.quiet s'.heap s'.live hb rfl,λh=>by cases h⟩,by rw[e1]; exact hk⟩
   .exact h.elim
  .exact h.elim
 .rename_i hc;split at h
  .split at h
   .exact key hc h
   .exact h.elim
  .exact key hc h
def mix(base:Nat)(f:Fl2)(s1 s' : S):S:=⟨(if f.wr then s1.heap.take base else s'.heap.take base)++(if f.nu then s1.heap.drop base else s'.heap.drop base),if f.tk then s1.live else s'.live⟩
theorem Q82{α : Type}{l:List α}{n:Nat}(h:n<=l.length):(l.take n).length=n:=by rw[List.length_take]; omega
theorem Qf7{base:Nat}{f:Fl2}{s1 s' : S}(h1:base<=s1.heap.length)(h2:base<=s'.heap.length):(mix base f s1 s').heap.take base=if f.wr then s1.heap.take base else s'.heap.take base:=by
 unfold mix;have:(if f.wr then s1.heap.take base else s'.heap.take base).length=base:=by split<;>exact Q82 (by assumption)
 simp only;rw[List.take_append_of_le_length (by omega),List.take_of_length_le (by omega)]
theorem Qf8{base:Nat}{f:Fl2}{s1 s' : S}(h1:base<=s1.heap.length)(h2:base<=s'.heap.length):(mix base f s1 s').heap.drop base=if f.nu then s1.heap.drop base else s'.heap.drop base:=by
 unfold mix;have:(if f.wr then s1.heap.take base else s'.heap.take base).length=base:=by split<;>exact Q82 (by assumption)
 simp only;rw[List.drop_append_of_le_length (by omega),List.drop_of_length_le (by omega),List.nil_append]
theorem Q83{base:Nat}{f:Fl2}{s1 s' : S}(h1:base<=s1.heap.length)(h2:base<=s'.heap.length):base<=(mix base f s1 s').heap.length:=by
 unfold mix;have:(if f.wr then s1.heap.take base else s'.heap.take base).length=base:=by split<;>exact Q82 (by assumption)
 simp only[List.length_append]; omega
theorem S.ext2{base:Nat}{a b:S}(h1:a.heap.take base=b.heap.take base)(h2:a.heap.drop base=b.heap.drop base)(h3:a.live=b.live):a=b:=by
 refine S.ext' ?_ h3;rw[<-List.take_append_drop base a.heap,h1,h2,List.take_append_drop]
def Loc2(base:Nat)(f:Fl2)(X:S->(D->S->Prop)->Prop):Prop:=∀ s K,base<=s.heap.length->X s K->∃ d s1,K d s1/\base<=s1.heap.length/\(f.wr=false->s1.heap.take base=s.heap.take base)/\(f.nu=false->s1.heap.drop base=s.heap.drop base) /\
 (f.tk=false->s1.live=s.live)/\∀ (s' : S) K', base<=s'.heap.length->(f.rd=true->s'.heap.take base=s.heap.take base)->(f.nu=true->s'.heap.drop base=s.heap.drop base)->(f.tk=true->s'.live=s.live)->K' d (mix base f s1 s')->X s' K'
theorem Loc2.false(base:Nat)(f:Fl2):Loc2 base f λ_ _=>False:=λ_ _ _ h=>h.elim
theorem Loc2.pure{base:Nat}{f:Fl2}(hw:f.wr=true->f.rd=true){X:S->(D->S->Prop)->Prop}(h:Loc ⟨Bool.false,Bool.false,Bool.false⟩ X):Loc2 base f X:=λs K hb hx=>by
 obtain⟨d,s1,h1,h2,h3,h4⟩:=h s K hx;have e:s1=s:=S.ext' (h2 rfl) (h3 rfl);subst e;refine⟨d,s1,h1,hb,λ_=>rfl,λ_=>rfl,λ_=>rfl,λs' K' hb' e1 e2 e3 hk=>h4 s' K' (λh=>by cases h) (λh=>by cases h) ?_⟩;have e:mix base f s1 s' = s' := by
  refine S.ext2 (base:=base) ?_ ?_ ?_
  .rw[Qf7 hb hb']; split
   .rename_i h; exact(e1 (hw h)).symm
   .rfl
  .rw[Qf8 hb hb']; split
   .rename_i h; exact(e2 h).symm
   .rfl
  .show(if f.tk then s1.live else s'.live)=s'.live;split
   .rename_i h; exact(e3 h).symm
   .rfl
 rw[e] at hk;exact hk
theorem Loc2.live{base:Nat}{X:S->(D->S->Prop)->Prop}(h:Loc ⟨Bool.false,Bool.false,true⟩ X):Loc2 base ⟨Bool.false,Bool.false,Bool.false,true⟩ X:=λs K hb hx=>by
 obtain⟨d,s1,h1,h2,h3,h4⟩:=h s K hx;have e:s1.heap=s.heap:=h2 rfl;refine⟨d,s1,h1,by rw[e]; exact hb,λ_=>by rw[e],λ_=>by rw[e],(λh=>by cases h),λs' K' hb' e1 e2 e3 hk=>h4 s' K' (λh=>by cases h) (λ_=>e3 rfl) ?_⟩;have e:mix base ⟨Bool.false,Bool.false,Bool.false,true⟩ s1 s' = ⟨s'.heap,s1.live⟩:=by
  unfold mix; simp
 rw[e] at hk;exact hk
theorem Q28{α : Type}(l:List α){base nm:Nat}(h:base<=nm):l[nm]? = (l.drop base)[nm-base]? := by rw[List.getElem?_drop]; congr 1; omega
theorem Ql7{α : Type}(l:List α){base nm:Nat}(h:nm<base):l[nm]? = (l.take base)[nm]? := by rw[List.getElem?_take,if_pos h]
theorem Qag0{base:Nat}{hv fr:Bool}{t:Nat}{x:Operand}{e:Operand->Option D}(hok:okP base fr (e x)=true):Loc2 base (Qdl hv fr (.load t x)) λs K=>Qrl false P tb (.load t x) e s K:=by
 intro s K hb h;have hvw:∀ (K:D->S->Prop) s' K', (Qrl false P tb (.load t x) e s K->Qrl false P tb (.load t x) e s' K')=(aOp tb (.load t x) e s K->aOp tb (.load t x) e s' K'):=λ_ _ _=>rfl
 have h0:aOp tb (.load t x) e s K:=h;show ∃ d s1,K d s1/\_/\_/\_/\_/\∀ (s' : S) K', _->_->_->_->_->aOp tb (.load t x) e s' K';have hwr:(Qdl hv fr (.load t x)).wr=true->(Qdl hv fr (.load t x)).rd=true:=Qxx hv fr _;unfold aOp at h0;simp only at h0;split at h0
 .rename_i ti cs ht hx;refine Loc2.pure (X:=λs K=>aOp tb (.load t x) e s K) hwr ?_ s K hb (by unfold aOp; simp only[ht,hx]; exact h0);have:=(Quy ti cs).loc Bool.false;intro s K h;unfold aOp at h;simp only[ht,hx] at h;obtain⟨d,s1,a1,a2,a3,a4⟩:=this s K h;refine⟨d,s1,a1,a2,a3,λs' K' q1 q2 hk=>?_⟩;have:=a4 s' K' q1 q2 hk;unfold aOp;simp only[ht,hx];exact this
 .rename_i ti d ht hx;refine Loc2.pure (X:=λs K=>aOp tb (.load t x) e s K) hwr ?_ s K hb (by unfold aOp; simp only[ht,hx]; exact h0);intro s K h;unfold aOp at h;simp only[ht,hx] at h;refine⟨d,s,h.2,λ_=>rfl,λ_=>rfl,λs' K' q1 q2 hk=>?_⟩;unfold aOp;simp only[ht,hx];exact⟨h.1,hk⟩
 .rename_i ti nm off ht hx;split at h0
  .rename_i ds hds;obtain⟨d,h1,h2⟩:=Q1t ti (ds.drop off) s K h0;refine⟨d,s,h1,hb,λ_=>rfl,λ_=>rfl,λ_=>rfl,λs' K' hb' e1 e2 e3 hk=>?_⟩;have hok' : (Nat.ble base nm==fr)=true:=by rw[hx] at hok; exact hok
   have hg:s'.heap[nm]? = some ds:=by
    by_cases hn:base<=nm
    .have hfr:fr=true:=by rw[Nat.ble_eq_true_of_le hn] at hok'; simpa using hok'.symm
     subst hfr;rw[Q28 _ hn,e2 rfl,<-Q28 _ hn]; exact hds
    .have hfr:fr=false:=by
      have:Nat.ble base nm=false:=by
       cases hq:Nat.ble base nm
       .rfl
       .exact absurd (Nat.le_of_ble_eq_true hq) hn
      rw[this] at hok'; simpa using hok'.symm
     subst hfr;rw[Ql7 (base:=base) (nm:=nm) _ (by omega),e1 rfl,<-Ql7 (base:=base) (nm:=nm) _ (by omega)]; exact hds
   have em:mix base (Qdl hv fr (.load t x)) s s' = s' := by
    refine S.ext2 (base:=base) ?_ ?_ ?_
    .rw[Qf7 hb hb']; split
     .rename_i h; exact(e1 (hwr h)).symm
     .rfl
    .rw[Qf8 hb hb']; split
     .rename_i h; exact(e2 h).symm
     .rfl
    .rfl
   rw[em] at hk;unfold aOp;simp only[ht,hx,hg];exact h2 s' K' hk
  .exact h0.elim
 .exact h0.elim
theorem Q6m{base:Nat}(l:List (Program×Nat×Nat))(ds:List D):Loc2 base ⟨false,false,true,false⟩ λs K=>K (.ptr s.heap.length 0) { s with heap:=s.heap++[spAt s.heap.length l ds] }:=by
 intro s K hb h;refine⟨_,_,h,by simp; omega,λ_=>by rw[List.take_append_of_le_length hb],(λh=>by cases h),λ_=>rfl,λs' K' hb' e1 e2 e3 hk=>?_⟩;have hl:s'.heap.length=s.heap.length:=by
  have:=congrArg List.length (e2 rfl);simp only[List.length_drop] at this;omega
 generalize hx:spAt s.heap.length l ds=x at hk ⊢;have em:mix base ⟨false,false,true,false⟩ ⟨s.heap++[x],s.live⟩ s' = ⟨s'.heap++[x],s'.live⟩:=by
  refine S.ext2 (base:=base) ?_ ?_ rfl
  .rw[Qf7 (by simp; omega) hb']; simp only[Bool.false_eq_true,if_false]; rw[List.take_append_of_le_length hb']
  .rw[Qf8 (by simp; omega) hb']; simp only[if_true]; rw[List.drop_append_of_le_length hb,List.drop_append_of_le_length hb', e2 rfl]
 rw[em] at hk;show K' (.ptr s'.heap.length 0) { s' with heap:=s'.heap++[spAt s'.heap.length l ds] };rw[hl,hx];exact hk
theorem Qai0{base:Nat}(t:Nat)(d:D):Loc2 base ⟨false,false,true,false⟩ λs K=>aBox tb t d s K:=by
 unfold aBox;split
 .exact Q6m _ _
 .exact .false _ _
theorem Qsj{α : Type}(l:List α){base nm:Nat}(v : α)(h:nm<base):(l.set nm v).take base=(l.take base).set nm v/\(l.set nm v).drop base=l.drop base:=by
 constructor
 .rw[List.take_set]
 .rw[List.drop_set,if_pos h]
theorem Q29{α : Type}(l:List α){base nm:Nat}(v : α)(h:base<=nm):(l.set nm v).take base=l.take base/\(l.set nm v).drop base=(l.drop base).set (nm-base) v:=by
 constructor
 .rw[List.take_set,List.set_eq_of_length_le]; rw[List.length_take]; omega
 .rw[List.drop_set,if_neg (by omega)]
theorem Qaed{base:Nat}{hv fr:Bool}{t:Nat}{x y:Operand}{e:Operand->Option D}(hok:okP base fr (e x)=true):Loc2 base (Qdl hv fr (.store t x y)) λs K=>Qrl false P tb (.store t x y) e s K:=by
 intro s K hb h;have h0:aOp tb (.store t x y) e s K:=h;show ∃ d s1,K d s1/\_/\_/\_/\_/\∀ (s' : S) K', _->_->_->_->_->aOp tb (.store t x y) e s' K';unfold aOp at h0;simp only at h0;split at h0
 .rename_i a b ha hbb;unfold Qvh at h0;split at h0
  .rename_i ti nm off cs ht hcs;split at h0
   .rename_i ds hds;split at h0
    rotate_left
    .exact h0.elim
    rename_i hnm;split at h0
    .rename_i hc;have hok' : (Nat.ble base nm==fr)=true:=by rw[ha] at hok; exact hok
     have hnl:nm<s.heap.length:=(List.getElem?_eq_some_iff.1 hds).1;refine⟨_,_,h0,by simpa using hb,λhw=>?_,λhn=>?_,λ_=>rfl,λs' K' hb' e1 e2 e3 hk=>?_⟩
     .have hfr:fr=true:=by simpa [Qdl] using hw
      subst hfr;have hn:base<=nm:=Nat.le_of_ble_eq_true (by simpa using hok');exact(Q29 _ _ hn).1
     .have hfr:fr=false:=by simpa [Qdl] using hn
      subst hfr;have hn:nm<base:=by
       have:Nat.ble base nm=false:=by simpa using hok'
       exact Nat.lt_of_not_le λhle=>by rw[Nat.ble_eq_true_of_le hle] at this; cases this
      exact(Qsj _ _ hn).2
     .by_cases hn:base<=nm
      .have hfr:fr=true:=by rw[Nat.ble_eq_true_of_le hn] at hok'; simpa using hok'.symm
       subst hfr;have hg:s'.heap[nm]? = some ds:=by rw[Q28 _ hn,e2 rfl,<-Q28 _ hn]; exact hds
       have em:mix base (Qdl hv true (.store t x y)) ⟨s.heap.set nm (Qkt ds (ds.take off++cs++ds.drop (off+cs.length))),s.live⟩ s' = ⟨s'.heap.set nm (Qkt ds (ds.take off++cs++ds.drop (off+cs.length))),s'.live⟩:=by
        refine S.ext2 (base:=base) ?_ ?_ rfl
        .rw[Qf7 (by simpa using hb) hb'];simp only[Qdl,Bool.not_true,Bool.false_eq_true,if_false];exact(Q29 _ _ hn).1.symm
        .rw[Qf8 (by simpa using hb) hb'];simp only[Qdl,if_true];rw[(Q29 _ _ hn).2,(Q29 _ _ hn).2,e2 rfl]
       rw[em] at hk;unfold aOp Qvh;simp only[ha,hbb,ht,hcs,hg,hnm];rw[if_pos hc];exact hk
      .have hfr:fr=false:=by
        have:Nat.ble base nm=false:=by
         cases hq:Nat.ble base nm
         .rfl
         .exact absurd (Nat.le_of_ble_eq_true hq) hn
        rw[this] at hok'; simpa using hok'.symm
       subst hfr;have hg:s'.heap[nm]? = some ds:=by rw[Ql7 (base:=base) (nm:=nm) _ (by omega),e1 rfl,<-Ql7 (base:=base) (nm:=nm) _ (by omega)]; exact hds
       have em:mix base (Qdl hv false (.store t x y)) ⟨s.heap.set nm (Qkt ds (ds.take off++cs++ds.drop (off+cs.length))),s.live⟩ s' = ⟨s'.heap.set nm (Qkt ds (ds.take off++cs++ds.drop (off+cs.length))),s'.live⟩:=by
        refine S.ext2 (base:=base) ?_ ?_ rfl
        .rw[Qf7 (by simpa using hb) hb'];simp only[Qdl,Bool.not_false,if_true];rw[(Qsj _ _ (by omega)).1,(Qsj _ _ (by omega)).1,e1 rfl]
        .rw[Qf8 (by simpa using hb) hb'];simp only[Qdl,Bool.false_eq_true,if_false];exact(Qsj _ _ (by omega)).2.symm
       rw[em] at hk;unfold aOp Qvh;simp only[ha,hbb,ht,hcs,hg,hnm];rw[if_pos hc];exact hk
    .exact h0.elim
   .exact h0.elim
  .exact h0.elim
 .exact h0.elim
theorem Qaee{base:Nat}(c:Call)(e:Operand->Option D):Loc2 base ⟨true,false,false,true⟩ λs K=>Qr0 false true base P c e s K:=by
 intro s K hb h;unfold Qr0 at h ⊢;split at h
 .split at h
  .obtain⟨r,s', hr,hk⟩:=h;refine⟨r,s', hk,by rw[hr.eq]; exact hb,λ_=>by rw[hr.eq],λ_=>by rw[hr.eq],(λh=>by cases h),λs2 K' hb2 e1 e2 e3 hk' => ⟨r,mix base ⟨true,false,false,true⟩ s' s2,⟨?_,λheap hl he=>?_⟩,hk'⟩⟩
   .show(if false=true then s'.heap.take base else s2.heap.take base)++(if false=true then s'.heap.drop base else s2.heap.drop base)=s2.heap;simp
   .have:=hr.quiet heap hl (he.trans (e1 rfl));rw[e3 rfl];exact this
  .exact h.elim
 .exact h.elim
theorem Qag1{base:Nat}{hv fr:Bool}(hf:fr=false)(c:Call)(e:Operand->Option D):Loc2 base ⟨true,hv,false,hv⟩ λs K=>Qr0 hv fr base P c e s K:=by
 subst hf;cases hv with
 | true =>
  intro s K hb h;unfold Qr0 at h ⊢;split at h
  .split at h
   .obtain⟨r,s', hr,hk⟩:=h;refine⟨r,s', hk,hr.len,(λh=>by cases h),λ_=>hr.eq,(λh=>by cases h),λs2 K' hb2 e1 e2 e3 hk' => ⟨r,mix base ⟨true,true,false,true⟩ s' s2,⟨Q83 hr.len hb2,?_,λheap hl he=>?_⟩,hk'⟩⟩
    .rw[Qf8 hr.len hb2]; rfl
    .have:=hr.ok heap hl (he.trans (e1 rfl));rw[Qf7 hr.len hb2,e3 rfl];exact this
   .exact h.elim
  .exact h.elim
 | false =>
  intro s K hb h;unfold Qr0 at h ⊢;split at h
  .split at h
   .obtain⟨r,s', hr,hk⟩:=h;have:=hr.eq;subst this;refine⟨r,s', hk,hb,λ_=>rfl,λ_=>rfl,λ_=>rfl,λs2 K' hb2 e1 e2 e3 hk' => ⟨r,s2,⟨rfl,λheap live hl he=>hr.quiet heap live hl (he.trans (e1 rfl))⟩,?_⟩⟩;have em:mix base ⟨true,false,false,false⟩ s' s2=s2:=by unfold mix; simp
    rw[em] at hk';exact hk'
   .exact h.elim
  .exact h.elim
theorem Qaef{base:Nat}(c:Call)(e:Operand->Option D):Loc2 base ⟨false,false,true,true⟩ λs K=>Qr0 true true base P c e s K:=by
 intro s K hb h;unfold Qr0 at h ⊢;split at h
 .split at h
  .obtain⟨r,s', hr,hk⟩:=h;refine⟨r,s', hk,hr.len,λ_=>hr.eq,(λh=>by cases h),(λh=>by cases h),λs2 K' hb2 e1 e2 e3 hk' => ⟨r,mix base ⟨false,false,true,true⟩ s' s2,⟨Q83 hr.len hb2,?_,λheap hl he=>?_⟩,hk'⟩⟩
   .rw[Qf7 hr.len hb2]; rfl
   .have:=hr.ok heap hl (he.trans (e2 rfl));rw[Qf8 hr.len hb2,e3 rfl];exact this
  .exact h.elim
 .exact h.elim
theorem Qaeg{base:Nat}{hv fr:Bool}(o:Op)(e:Operand->Option D):Loc2 base (Qdl hv fr o) λs K=>Qrm base hv fr P tb o e s K:=by
 have hb0:=Qad2 (tb:=tb) (P:=P) o e;cases o with
 | call c =>
  cases hc:c.callee with
  | value f =>
   have e1:Qbk (.call c)=some c:=by simp[Qbk,hc]
   unfold Qrm;simp only[e1];cases hvf:(hv&&fr) with
   | false =>
    cases hfr:fr with
    | false =>
     have e2:Qdl hv false (.call c)=⟨true,hv,false,hv⟩:=by simp[Qdl,hc]
     rw[e2];exact Qag1 rfl c e
    | true =>
     have hv0:hv=false:=by rw[hfr] at hvf; simpa using hvf
     subst hv0;have e2:Qdl false true (.call c)=⟨true,false,false,true⟩:=by simp[Qdl,hc]
     rw[e2];exact Qaee c e
   | true =>
    have e2:Qdl hv fr (.call c)=⟨false,false,true,true⟩:=by simp only[Qdl,hc,hvf,if_true]
    rw[e2];simp only[Bool.and_eq_true] at hvf;rw[hvf.1,hvf.2];exact Qaef c e
  | invoke r m =>
   have e1:Qbk (.call c)=none:=by simp[Qbk,hc]
   have e2:Qdl hv fr (.call c)=⟨false,false,false,false⟩:=by simp[Qdl,hc]
   rw[e2];unfold Qrm;simp only[e1,Q27];refine Loc2.pure (λh=>by cases h) ?_;have:Qrk (.call c)=⟨false,false,false⟩:=by simp[Qrk,hc]
   rw[this] at hb0;exact hb0
  | builtin b =>
   have e1:Qbk (.call c)=none:=by simp[Qbk,hc]
   unfold Qrm;simp only[e1,Q27];by_cases hb:b = .append
   .subst hb;have e2:Qdl hv fr (.call c)=⟨false,false,false,true⟩:=by simp[Qdl,hc]
    have e3:Qrk (.call c)=⟨false,false,true⟩:=by simp[Qrk,hc]
    rw[e2];rw[e3] at hb0;exact Loc2.live hb0
   .have e2:Qdl hv fr (.call c)=⟨false,false,false,false⟩:=by
     cases b<;>first | rfl | (exact absurd rfl hb) | simp[Qdl,hc]
    have e3:Qrk (.call c)=⟨false,false,false⟩:=by
     cases b<;>first | rfl | (exact absurd rfl hb) | simp[Qrk,hc]
    rw[e2];rw[e3] at hb0;exact Loc2.pure (λh=>by cases h) hb0
 | load t x =>
  unfold Qrm;simp only[Qbk,Q27];cases hok:okP base fr (e x) with
  | true=>exact Qag0 hok
  | false=>exact .false _ _
 | store t x y =>
  unfold Qrm;simp only[Qbk,Q27];cases hok:okP base fr (e x) with
  | true=>exact Qaed hok
  | false=>exact .false _ _
 | alloc t =>
  show Loc2 base ⟨false,false,true,false⟩ λs K=>Qxf tb t s K
  unfold Qxf;split
  .split
   .split
    .exact Q6m _ _
    .exact .false _ _
   .exact .false _ _
  .exact .false _ _
 | box t x =>
  show Loc2 base ⟨false,false,true,false⟩ λs K=>match e x with | some d=>aBox tb t d s K | none=>False
  split
  .exact Qai0 _ _
  .exact .false _ _
 | _=>exact Loc2.pure (λh=>by cases h) hb0
theorem Q84{base:Nat}{hv fr:Bool}(o:Op){e e' : Operand->Option D}(h:∀ x ∈ o.operands.toList,e x=e' x)(s:S)(K:D->S->Prop):Qrm base hv fr P tb o e s K=Qrm base hv fr P tb o e' s K:=by
 have hb:=Q8o (P:=P) (tb:=tb) (gn:=false) o h s K;cases o with
 | call c =>
  cases hc:c.callee with
  | value f =>
   have h1:e f=e' f:=h f (by simp[Op.operands,Call.operands,hc]);have h2:=Qlg (e:=e) (e' := e') c.args.toList λx hx=>h x (by simp[Op.operands,Call.operands,hc]; exact .inr (by simpa using hx))
   simp only[Qrm,Qbk,hc,Qr0,h1,h2]
  | invoke r m=>simp only[Qrm,Qbk,hc,Q27,hb]
  | builtin b=>simp only[Qrm,Qbk,hc,Q27,hb]
 | load t x =>
  have h1:e x=e' x:=h x (by simp[Op.operands]);simp only[Qrm,Qbk,Q27,hb,h1]
 | store t x y =>
  have h1:e x=e' x:=h x (by simp[Op.operands]);simp only[Qrm,Qbk,Q27,hb,h1]
 | _=>exact hb
def Qdm(hvl:List Nat)(ops:List Oper)(i:Nat):Fl2:=match ops[i]? with | some o=>(match rMk hvl i with | true=>(match isLk o.op with | true=>⟨true,false,false,false⟩ | false=>⟨false,false,false,true⟩) | false=>Qdl (hvl.contains i) (Qaiy hvl ops i) o.op) | none=>⟨false,false,false,false⟩
theorem Qaa1(hvl:List Nat)(ops:List Oper)(i:Nat)(h:(Qdm hvl ops i).wr=true):(Qdm hvl ops i).rd=true:=by
 unfold Qdm at h ⊢;split
 .rename_i o ho;rw[ho] at h;cases hm:rMk hvl i with
  | true =>
   cases hk:isLk o.op with
   | true=>simp only[hm,hk] at h; cases h
   | false=>simp only[hm,hk] at h; cases h
  | false=>simp only[hm] at h; exact Qxx _ _ _ h
 .rename_i ho; rw[ho] at h; cases h
def Qp1(hvl:List Nat)(ops:List Oper)(i j:Nat):Bool :=
 (match Qn4 ops i with | some t => !(Qsh ops j).contains t | none=>true)&&(match Qn4 ops j with | some t => !(Qsh ops i).contains t | none=>true) &&
 (match Qn4 ops i,Qn4 ops j with | some t,some t' => !(t==t') | _,_=>true) &&
 !((Qdm hvl ops i).wr&&(Qdm hvl ops j).rd) && !((Qdm hvl ops j).wr&&(Qdm hvl ops i).rd) && !((Qdm hvl ops i).nu&&(Qdm hvl ops j).nu) && !((Qdm hvl ops i).tk&&(Qdm hvl ops j).tk)
theorem Q85{hvl:List Nat}{ops:List Oper}{i j:Nat}(h:Qp1 hvl ops i j=true):(∀ t,Qn4 ops i=some t->t ∉ Qsh ops j)/\(∀ t,Qn4 ops j=some t->t ∉ Qsh ops i)/\(∀ t,Qn4 ops i=some t->Qn4 ops j≠some t) /\
  ((Qdm hvl ops i).wr=true->(Qdm hvl ops j).rd=false)/\((Qdm hvl ops j).wr=true->(Qdm hvl ops i).rd=false)/\((Qdm hvl ops i).nu=true->(Qdm hvl ops j).nu=false)/\((Qdm hvl ops i).tk=true->(Qdm hvl ops j).tk=false):=by
 unfold Qp1 at h;simp only[Bool.and_eq_true] at h;obtain⟨⟨⟨⟨⟨⟨h1,h2⟩,h3⟩,h4⟩,h5⟩,h6⟩,h7⟩:=h;refine⟨λt ht=>?_,λt ht=>?_,λt ht ht' => ?_,λe=>?_,λe=>?_,λe=>?_,λe=>?_⟩
 .rw[ht] at h1; simpa using h1
 .rw[ht] at h2; simpa using h2
 .rw[ht,ht'] at h3; simp at h3
 .rw[e] at h4; simpa using h4
 .rw[e] at h5; simpa using h5
 .rw[e] at h6; simpa using h6
 .rw[e] at h7; simpa using h7
def dOne(base:Nat)(hvl:List Nat)(P:Program)(tb:Tbl)(N:Nat)(ops:List Oper)(i:Nat)(σ : St)(K:St->Prop):Prop :=
 match ops[i]? with
 | none=>K σ
 | some o=>match Qzz ops σ.env o.guard with
  | some true=>match rMk hvl i with
   | true=>rOk base o.op (ev σ.env)=true/\Q8u tb .no o.op σ λd _=>putE N σ.env o.dst d λenv' => K ⟨env', σ.s⟩
   | false=>Qrm base (hvl.contains i) (Qaiy hvl ops i) P tb o.op (ev σ.env) σ.s λd s' => Qvm (Q8j ops i) d λd=>putE N σ.env o.dst d λenv' => K ⟨env', s'⟩
  | some false=>putE N σ.env o.dst .undef λenv' => K ⟨env', σ.s⟩
  | none=>False
def dOps(base:Nat)(hvl:List Nat)(P:Program)(tb:Tbl)(N:Nat)(ops:List Oper):List Nat->St->(St->Prop)->Prop
 | [],σ,K=>K σ
 | i::r,σ,K=>dOne base hvl P tb N ops i σ λσ' => dOps base hvl P tb N ops r σ' K
theorem Qaku{base:Nat}{hvl:List Nat}{N:Nat}{ops:List Oper}{i:Nat}{σ : St}{K:St->Prop}(hb:base <= σ.s.heap.length)(hm:rMk hvl i=false)(h:dOne base hvl P tb N ops i σ K):bOne true P tb N ops i σ K:=by
 unfold dOne at h;unfold bOne;split at h
 .rename_i ho; (try simp only[ho]); exact h
 .rename_i o ho
  try simp only[ho]
  split at h
  .rename_i hw;simp only[hm] at h
   (try rw[hw])
   exact Qaiz hb h
  .rename_i hw; (try rw[hw]); exact h
  .exact h.elim
theorem Qk5(hT:TblOk P tb){rd:Option Nat}{base:Nat}{hvl:List Nat}{N:Nat}{G:Gh}{σ : St}{a:Act}{w:World}(hR:Rel N G σ a w){ops:List Oper}{i:Nat}{K:St->Prop}(hb:base <= σ.s.heap.length)(h:dOne base hvl P tb N ops i σ K)
  {next:Act->World->Prop} {Q:Exit->Act->World->Prop} (hn:∀ a' w' G' σ', Stp G w G' w' -> Rel N G' σ' a' w' -> a'.defers=a.defers->K σ' -> next a' w'):wpOpIn (FW rd) 0 P ops.toArray Q i next a w:=by
 cases hm:rMk hvl i with
 | false=>exact Qhc hT hR (Qaku hb hm h) hn
 | true =>
  cases ho:ops[i]? with
  | none =>
   refine Qhc (gn:=true) hT hR (K:=K) ?_ hn;unfold dOne at h;unfold bOne;simp only[ho] at h ⊢;exact h
  | some o =>
   refine Qq5 hT hR (hm :=.no) (K:=K) ?_ hn;unfold dOne at h;unfold xOne;simp only[ho,hm] at h ⊢;split at h
   .rename_i hw
    try simp only[hw]
    obtain⟨d,k1,k2⟩:=Q25 h.1 h.2;exact k2 σ _ (λ_ _=>rfl) (λ_=>rfl) (λ_=>rfl) k1
   .rename_i hw
    try simp only[hw]
    exact h
   .exact h.elim
theorem Q6n{base:Nat}{o:Op}{e e' : Operand->Option D}(h:∀ x ∈ o.operands.toList,e x=e' x):rOk base o e=rOk base o e' := by
 cases o with
 | lookup t x i ok=>simp only[rOk,h x (by simp[Op.operands])]
 | _=>rfl
theorem Qw0{base:Nat}{hvl:List Nat}{N:Nat}{ops:List Oper}{i:Nat}{σ : St}{K:St->Prop}(hb:base <= σ.s.heap.length)(h:dOne base hvl P tb N ops i σ K) :
  ∃ d s1,K ⟨fset (Qn4 ops i) d σ.env,s1⟩/\base<=s1.heap.length/\((Qdm hvl ops i).wr=false->s1.heap.take base = σ.s.heap.take base)/\((Qdm hvl ops i).nu=false->s1.heap.drop base = σ.s.heap.drop base)/\((Qdm hvl ops i).tk=false->s1.live = σ.s.live) /\
   ∀ (τ : St) (K' : St->Prop),base <= τ.s.heap.length->(∀ t ∈ Qsh ops i,σ.env.lookup t = τ.env.lookup t)->((Qdm hvl ops i).rd=true -> τ.s.heap.take base = σ.s.heap.take base)->((Qdm hvl ops i).nu=true -> τ.s.heap.drop base = σ.s.heap.drop base)->((Qdm hvl ops i).tk=true -> τ.s.live = σ.s.live) ->
    K' ⟨fset (Qn4 ops i) d τ.env,mix base (Qdm hvl ops i) s1 τ.s⟩->dOne base hvl P tb N ops i τ K' := by
 have self:∀ (f:Fl2),(f.wr=true->f.rd=true)->∀ (τ : St),base <= τ.s.heap.length->(f.rd=true -> τ.s.heap.take base = σ.s.heap.take base)->(f.nu=true -> τ.s.heap.drop base = σ.s.heap.drop base)->(f.tk=true -> τ.s.live = σ.s.live)->mix base f σ.s τ.s = τ.s:=λf hw τ hb' e1 e2 e3=>by
  refine S.ext2 (base:=base) ?_ ?_ ?_
  .rw[Qf7 hb hb']; split
   .rename_i h; exact(e1 (hw h)).symm
   .rfl
  .rw[Qf8 hb hb']; split
   .rename_i h; exact(e2 h).symm
   .rfl
  .show(if f.tk then σ.s.live else τ.s.live) = τ.s.live;split
   .rename_i h; exact(e3 h).symm
   .rfl
 unfold dOne at h ⊢;cases ho:ops[i]? with
 | none =>
  simp only[ho] at h;refine⟨.undef,σ.s,?_,hb,λ_=>rfl,λ_=>rfl,λ_=>rfl,λτ K' hb' _ e1 e2 e3 hk=>?_⟩
  .simp only[Qn4,ho,Option.bind_none,fset]; exact h
  .rw[self _ (Qaa1 hvl ops i) τ hb' e1 e2 e3] at hk;simp only[Qn4,ho,Option.bind_none,fset] at hk ⊢; exact hk
 | some o =>
  have hd:Qn4 ops i=o.dst:=by simp[Qn4,ho]
  have hl:Qsh ops i=Q8m ops o:=by simp[Qsh,ho]
  simp only[ho] at h ⊢;cases hm:rMk hvl i with
  | true =>
   simp only[hm] at h ⊢;cases hk:isLk o.op with
   | false =>
    have hf:Qdm hvl ops i=⟨false,false,false,true⟩:=by simp[Qdm,ho,hm,hk]
    rw[hd,hf,hl];split at h
    .rename_i hw;obtain⟨hr,hx⟩:=h;obtain⟨d,k,hk2⟩:=Q25 hr hx;obtain⟨p1,p2⟩:=Qgp.1 k;refine⟨d,σ.s,p2,hb,λ_=>rfl,λ_=>rfl,λ_=>rfl,λτ K' hb' e1 e2 e2' e3 hk' => ?_⟩;rw[self _ (λh=>by cases h) τ hb' e2 e2' e3] at hk';rw[<-Qim e1,hw];exact⟨(Q6n (Qti e1)).symm.trans hr,hk2 τ _ (Qti e1) (λ_=>e3 rfl) (λh=>by rw[hk] at h; cases h) (Qgp.2 ⟨p1,hk'⟩)⟩
    .rename_i hw;obtain⟨p1,p2⟩:=Qgp.1 h;refine⟨.undef,σ.s,p2,hb,λ_=>rfl,λ_=>rfl,λ_=>rfl,λτ K' hb' e1 e2 e2' e3 hk' => ?_⟩;rw[<-Qim e1,hw];refine Qgp.2 ⟨p1,?_⟩;rw[self _ (λh=>by cases h) τ hb' e2 e2' e3] at hk';exact hk'
    .exact h.elim
   | true =>
    have hf:Qdm hvl ops i=⟨true,false,false,false⟩:=by simp[Qdm,ho,hm,hk]
    rw[hd,hf,hl];split at h
    .rename_i hw;obtain⟨hr,hx⟩:=h;obtain⟨d,k,hk2⟩:=Q25 hr hx;obtain⟨p1,p2⟩:=Qgp.1 k;refine⟨d,σ.s,p2,hb,λ_=>rfl,λ_=>rfl,λ_=>rfl,λτ K' hb' e1 e2 e2' e3 hk' => ?_⟩;rw[self _ (λh=>by cases h) τ hb' e2 e2' e3] at hk';rw[<-Qim e1,hw];exact⟨(Q6n (Qti e1)).symm.trans hr,hk2 τ _ (Qti e1) (λh=>by rw[hk] at h; cases h) (λ_=>e2 rfl) (Qgp.2 ⟨p1,hk'⟩)⟩
    .rename_i hw;obtain⟨p1,p2⟩:=Qgp.1 h;refine⟨.undef,σ.s,p2,hb,λ_=>rfl,λ_=>rfl,λ_=>rfl,λτ K' hb' e1 e2 e2' e3 hk' => ?_⟩;rw[<-Qim e1,hw];refine Qgp.2 ⟨p1,?_⟩;rw[self _ (λh=>by cases h) τ hb' e2 e2' e3] at hk';exact hk'
    .exact h.elim
  | false =>
  have hf:Qdm hvl ops i=Qdl (hvl.contains i) (Qaiy hvl ops i) o.op:=by simp[Qdm,ho,hm]
  simp only[hm] at h ⊢;rw[hd,hf,hl];split at h
  .rename_i hw;obtain⟨d,s1,hk,h0,h1,h2,h2', h3⟩:=Qaeg (tb:=tb) (P:=P) o.op (ev σ.env) σ.s _ hb h;obtain⟨k1,k2⟩:=Qacc hk;obtain⟨p1,p2⟩:=Qgp.1 k1;refine⟨d,s1,p2,h0,h1,h2,h2', λτ K' hb' e1 e2 e2' e3 hk' => ?_⟩;rw[<-Qim e1,hw];simp only;rw[Q84 o.op λx hx=>(Qti e1 x hx).symm];exact h3 τ.s _ hb' e2 e2' e3 (k2 _ (Qgp.2 ⟨p1,hk'⟩))
  .rename_i hw;obtain⟨p1,p2⟩:=Qgp.1 h;refine⟨.undef,σ.s,p2,hb,λ_=>rfl,λ_=>rfl,λ_=>rfl,λτ K' hb' e1 e2 e2' e3 hk' => ?_⟩;rw[<-Qim e1,hw];refine Qgp.2 ⟨p1,?_⟩;rw[self _ (Qxx _ _ _) τ hb' e2 e2' e3] at hk';exact hk'
  .exact h.elim
theorem Qgl{base:Nat}{hvl:List Nat}{N:Nat}{ops:List Oper}{i:Nat}{σ : St}{K K' : St->Prop}(hb:base <= σ.s.heap.length)(hK:∀ τ,base <= τ.s.heap.length->K τ -> K' τ)(h:dOne base hvl P tb N ops i σ K):dOne base hvl P tb N ops i σ K' := by
 obtain⟨d,s1,k,h0,h1,h2,h2', h3⟩:=Qw0 hb h;refine h3 σ K' hb (λ_ _=>rfl) (λ_=>rfl) (λ_=>rfl) (λ_=>rfl) ?_;have e:mix base (Qdm hvl ops i) s1 σ.s=s1:=by
  refine S.ext2 (base:=base) ?_ ?_ ?_
  .rw[Qf7 h0 hb]; split
   .rfl
   .rename_i hw; exact(h1 (by simpa using hw)).symm
  .rw[Qf8 h0 hb]; split
   .rfl
   .rename_i hw; exact(h2 (by simpa using hw)).symm
  .show(if(Qdm hvl ops i).tk then s1.live else σ.s.live)=s1.live;split
   .rfl
   .rename_i hw; exact(h2' (by simpa using hw)).symm
 rw[e]; exact hK _ h0 k
theorem Qag2{base:Nat}{hvl:List Nat}{N:Nat}{ops:List Oper}{i:Nat}{σ τ : St}{K:St->Prop}(hb:base <= σ.s.heap.length)(hK:Qtj K)(he:Eqv σ τ)(h:dOne base hvl P tb N ops i σ K):dOne base hvl P tb N ops i τ K:=by
 obtain⟨d,s1,k,h0,h1,h2,h2', h3⟩:=Qw0 hb h;have hb' : base <= τ.s.heap.length:=by rw[<-he.2]; exact hb
 refine h3 τ K hb' (λt _=>he.1 t) (λ_=>by rw[he.2]) (λ_=>by rw[he.2]) (λ_=>by rw[he.2]) (hK _ _ ⟨λt=>?_,?_⟩ k)
 .simp only[Qth]; rw[he.1 t]
 .refine S.ext2 (base:=base) ?_ ?_ ?_
  .rw[Qf7 h0 hb']; split
   .rfl
   .rename_i hw; rw[h1 (by simpa using hw),he.2]
  .rw[Qf8 h0 hb']; split
   .rfl
   .rename_i hw; rw[h2 (by simpa using hw),he.2]
  .show s1.live=if(Qdm hvl ops i).tk then s1.live else τ.s.live
   split
   .rfl
   .rename_i hw; rw[h2' (by simpa using hw),he.2]
def Qaeh(base:Nat)(K:St->Prop):Prop:=∀ σ τ,base <= σ.s.heap.length->Eqv σ τ -> K σ -> K τ
theorem Qw1{base:Nat}{hvl:List Nat}{N:Nat}{ops:List Oper}{K:St->Prop}(hK:Qtj K):∀ l:List Nat,Qaeh base λσ => dOps base hvl P tb N ops l σ K
 | [],σ,τ,_,he,h=>hK σ τ he h
 | i::r,σ,τ,hb,he,h=>by
  have h1:dOne base hvl P tb N ops i σ λσ' => dOps base hvl P tb N ops r σ' K:=h
  have h2:dOne base hvl P tb N ops i σ λσ' => ∃ υ,Eqv υ σ' /\ base <= υ.s.heap.length/\dOps base hvl P tb N ops r υ K:=Qgl hb (λυ hu hk=>⟨υ,.refl υ,hu,hk⟩) h1
  have h3:=Qag2 hb (λa b hab ⟨υ,k1,k2,k3⟩=>⟨υ,k1.trans hab,k2,k3⟩) he h2;exact Qgl (by rw[<-he.2]; exact hb) (λυ _ ⟨φ,k1,k2,k3⟩=>Qw1 hK r φ υ k2 k1 k3) h3
theorem Qaei{base:Nat}{hvl:List Nat}{N:Nat}{ops:List Oper}{i j:Nat}(hi:Qp1 hvl ops i j=true){σ : St}{K:St->Prop}(hb:base <= σ.s.heap.length)(hK:Qaeh base K)(h:dOne base hvl P tb N ops i σ λσ1=>dOne base hvl P tb N ops j σ1 K) :
  dOne base hvl P tb N ops j σ λσ1=>dOne base hvl P tb N ops i σ1 K:=by
 obtain⟨p1,p2,p3,p4,p5,p6,p7⟩:=Q85 hi;obtain⟨d,s1,k,h0,h1,h2,h2', h3⟩:=Qw0 hb h;obtain⟨d', s2,k', h0', h1', hn', h2'', h3'⟩:=Qw0 (σ := ⟨fset (Qn4 ops i) d σ.env,s1⟩) h0 k;have flip:∀ {a b:Bool},(a=true->b=false)->b=true->a=false:=λ{a b} f hb=>by
  cases a
  .rfl
  .rw[f rfl] at hb; cases hb
 refine h3' σ _ hb (λt ht=>?_) (λhr=>?_) (λhr=>?_) (λht=>?_) ?_
 .rw[Qth,if_neg λe=>p1 t e ht]
 .exact(h1 (flip p4 hr)).symm
 .exact(h2 (flip p6 hr)).symm
 .exact(h2' (flip p7 ht)).symm
 have hm2:=Q83 (f:=Qdm hvl ops j) h0' hb;refine h3 _ K hm2 (λt ht=>?_) (λhr=>?_) (λhr=>?_) (λht=>?_) ?_
 .rw[Qth,if_neg λe=>p2 t e ht]
 .rw[Qf7 h0' hb,flip p5 hr]; rfl
 .rw[Qf8 h0' hb,p6 hr]; rfl
 .show(if(Qdm hvl ops j).tk then s2.live else σ.s.live) = σ.s.live;rw[p7 ht]; rfl
 refine hK _ _ h0' ⟨λt=>?_,S.ext2 (base:=base) ?_ ?_ ?_⟩ k'
 .simp only[Qth];by_cases e1:Qn4 ops j=some t
  .have e2:Qn4 ops i≠some t:=λe=>p3 t e e1
   rw[if_pos e1,if_neg e2,if_pos e1]
  .rw[if_neg e1,if_neg e1]
 .rw[Qf7 h0 hm2,Qf7 h0' hb];cases hwi:(Qdm hvl ops i).wr
  .simp only[Bool.false_eq_true,if_false];cases hwj:(Qdm hvl ops j).wr
   .simp only[Bool.false_eq_true,if_false]; rw[h1' hwj]; exact h1 hwi
   .simp only[if_true]
  .simp only[if_true];have hwj:(Qdm hvl ops j).wr=false:=by
    cases hw:(Qdm hvl ops j).wr
    .rfl
    .have:=Qaa1 hvl ops j hw; rw[p4 hwi] at this; cases this
   exact h1' hwj
 .rw[Qf8 h0 hm2,Qf8 h0' hb];cases hwi:(Qdm hvl ops i).nu
  .simp only[Bool.false_eq_true,if_false];cases hwj:(Qdm hvl ops j).nu
   .simp only[Bool.false_eq_true,if_false]; rw[hn' hwj]; exact h2 hwi
   .simp only[if_true]
  .simp only[if_true];exact hn' (p6 hwi)
 .show s2.live=if(Qdm hvl ops i).tk then s1.live else if(Qdm hvl ops j).tk then s2.live else σ.s.live
  cases hwi:(Qdm hvl ops i).tk
  .cases hwj:(Qdm hvl ops j).tk
   .rw[h2'' hwj]; exact h2' hwi
   .rfl
  .exact h2'' (p7 hwi)
theorem Qio{base:Nat}{hvl:List Nat}{N:Nat}{ops:List Oper}{x:Nat}{B:List Nat}{K:St->Prop}(hK:Qtj K):∀ (A:List Nat) (σ : St),base <= σ.s.heap.length->(∀ a ∈ A,Qp1 hvl ops a x=true)->dOps base hvl P tb N ops (A++x::B) σ K->dOne base hvl P tb N ops x σ λσ1=>dOps base hvl P tb N ops (A++B) σ1 K
 | [],σ,_,_,h=>h
 | a::A,σ,hb,hA,h=>by
  have h1:dOne base hvl P tb N ops a σ λσ1=>dOne base hvl P tb N ops x σ1 λσ2=>dOps base hvl P tb N ops (A++B) σ2 K :=
   Qgl hb (λτ hb' hτ => Qio hK A τ hb' (λb hb=>hA b (by simp[hb])) hτ) h
  exact Qaei (hA a (by simp)) hb (Qw1 hK (A++B)) h1
def Qaa2(hvl:List Nat)(ops:List Oper):Bool :=
 let an:=Qoy ops []
 (List.range ops.length).all λi=>match ops[i]? with
  | some o=>o.after.toList.all (λe => !Region.binds .any e||decide (e.on<i))&&(List.range i).all λa=>(an.getD i []).contains a||Qp1 hvl ops a i
  | none=>true
theorem Qxy{hvl:List Nat}{ops:List Oper}(h:Qaa2 hvl ops=true){i:Nat}{o:Oper}(ho:ops[i]? = some o):(∀ e ∈ o.after,Region.binds .any e=true->e.on<i) /\
  ∀ a,a<i->Reach ops a i\/Qp1 hvl ops a i=true:=by
 unfold Qaa2 at h;rw[List.all_eq_true] at h;have:=h i (List.mem_range.2 (List.getElem?_eq_some_iff.1 ho).1);simp only[ho,Bool.and_eq_true,List.all_eq_true,Bool.or_eq_true,List.mem_range,List.contains_iff_mem] at this;obtain⟨h1,h2⟩:=this;refine⟨λe he hb=>?_,λa ha=>?_⟩
 .have:=h1 e (by simpa using he);simpa [hb] using this
 .rcases h2 a ha with h | h
  .cases hq:(Qoy ops [])[i]? with
   | none=>simp[List.getD,hq] at h
   | some l =>
    simp[List.getD,hq] at h;exact .inl (Qin ops [] [] rfl rfl (λi l a h=>by simp at h) i l a hq h)
  .exact .inr h
theorem Q6o(hT:TblOk P tb){rd:Option Nat}{base:Nat}{hvl:List Nat}{N:Nat}{ops:List Oper}(hl:Qaa2 hvl ops=true){Q:Exit->Act->World->Prop}{K:St->Prop}(hK:Qtj K){B:Nat×Nat}{G0:Gh}{w0:World}{ds:List Deferred}(hQ:∀ a w G σ,Ex B G0 w0 G w->Rel N G σ a w->a.defers=ds->K σ -> Q .normal a w) :
  ∀ (fuel:Nat) (listed:Array Bool) (σ : St) (a:Act) (w:World) (G:Gh),listed.size=ops.length->Down ops listed->((List.range ops.length).filter λi => !listed.getD i true).length=fuel->Ex B G0 w0 G w->Rel N G σ a w->a.defers=ds->base <= σ.s.heap.length ->
   dOps base hvl P tb N ops ((List.range ops.length).filter λi => !listed.getD i true) σ K->wpAnyIn (FW rd) 0 P .any ops.toArray Q fuel listed a w
 | 0,listed,σ,a,w,G,hs,hdn,hf,hE,hR,hd,hbs,h=>by
  have hnil:=List.eq_nil_of_length_eq_zero hf;rw[hnil] at h;refine⟨?_,hQ a w G σ hE hR hd h⟩;apply List.eq_nil_iff_forall_not_mem.2;intro i hi;obtain⟨h1,o,ho,-⟩:=mem_ready.1 hi;have:i ∈ (List.range ops.length).filter λi => !listed.getD i true:=by
   rw[List.mem_filter,List.mem_range];exact⟨by have:=(Array.getElem?_eq_some_iff.1 ho).1; simpa using this,by rw[h1]; rfl⟩
  rw[hnil] at this;cases this
 | fuel+1,listed,σ,a,w,G,hs,hdn,hf,hE,hR,hd,hbs,h=>by
  refine⟨λhr=>?_,λi hi=>?_⟩
  .exfalso;generalize hL:((List.range ops.length).filter λi => !listed.getD i true)=L at hf;cases L with
   | nil=>simp at hf
   | cons x r =>
    have hx:x ∈ (List.range ops.length).filter λi => !listed.getD i true:=by rw[hL]; simp
    rw[List.mem_filter,List.mem_range] at hx;obtain⟨hx1,hx2⟩:=hx;have ho:ops[x]? = some ops[x]:=List.getElem?_eq_getElem hx1;have hmem:x ∈ Region.ready .any ops.toArray listed:=by
     refine mem_ready.2 ⟨by simpa using hx2,ops[x],by simp,λe he hb=>?_⟩;have hlt:=(Qxy hl ho).1 e he hb;cases hg:listed.getD e.on false
     .exfalso;have hmm:e.on ∈ (List.range ops.length).filter λi => !listed.getD i true:=by
       rw[List.mem_filter,List.mem_range];refine⟨by omega,?_⟩;have hlt2:e.on<listed.size:=by omega
       simp only[Array.getD_eq_getD_getElem?,Array.getElem?_eq_getElem hlt2,Option.getD_some] at hg ⊢;simp[hg]
      have hsorted:((List.range ops.length).filter λi => !listed.getD i true).Pairwise (· < ·):=List.Pairwise.filter _ List.pairwise_lt_range;rw[hL] at hmm hsorted;rcases List.mem_cons.1 hmm with h0 | h0
      .omega
      .have:=List.rel_of_pairwise_cons hsorted h0; omega
     .rfl
    rw[hr] at hmem;cases hmem
  .obtain⟨h1,o,ho,hp⟩:=mem_ready.1 hi;have ho' : ops[i]? = some o:=by simpa using ho
   have hil:i<ops.length:=(List.getElem?_eq_some_iff.1 ho').1;have him:i ∈ (List.range ops.length).filter λi => !listed.getD i true:=by
    rw[List.mem_filter,List.mem_range]; exact⟨hil,by rw[h1]; rfl⟩
   have hsorted:((List.range ops.length).filter λi => !listed.getD i true).Pairwise (· < ·):=List.Pairwise.filter _ List.pairwise_lt_range;obtain⟨A,B,hAB⟩:=List.append_of_mem him;have hA:∀ x ∈ A,x<i/\listed.getD x true=false:=λx hx=>by
    refine⟨?_,?_⟩
    .rw[hAB] at hsorted;exact(List.pairwise_append.1 hsorted).2.2 x hx i (by simp)
    .have:x ∈ (List.range ops.length).filter λi => !listed.getD i true:=by rw[hAB]; simp[hx]
     rw[List.mem_filter] at this;simpa using this.2
   rw[hAB] at h;have hfront:=Qio hK A σ hbs (λx hx=>by
    obtain⟨hx1,hx2⟩:=hA x hx;rcases (Qxy hl ho').2 x hx1 with hre | h0
    .have:=hdn.reach hs hre λo2 ho2 e he hb=>by
      rw[ho'] at ho2;cases ho2;exact hp e he hb
     have hlt2:x<listed.size:=by omega
     simp only[Array.getD_eq_getD_getElem?,Array.getElem?_eq_getElem hlt2,Option.getD_some] at this hx2;rw[this] at hx2; cases hx2
    .exact h0) h
   have hnew:((List.range ops.length).filter λk => !(listed.setIfInBounds i true).getD k true)=A++B:=by
    have e1:((List.range ops.length).filter λk => !(listed.setIfInBounds i true).getD k true)=((List.range ops.length).filter λk => !listed.getD k true).filter λk=>k != i:=by
     rw[List.filter_filter];apply List.filter_congr;intro k hk;by_cases hki:k=i
     .subst hki;have hks:k<listed.size:=by omega
      simp[Array.getD_eq_getD_getElem?,hks]
     .rw[getD_set_ne true (λe=>hki e.symm)];simp[hki]
    rw[e1,hAB];have hnd:(A++i::B).Nodup:=by
     rw[<-hAB]; exact List.Pairwise.filter _ List.nodup_range
    rw[List.nodup_append] at hnd;obtain⟨n1,n2,n3⟩:=hnd;rw[List.nodup_cons] at n2;rw[List.filter_append,List.filter_cons];simp only[bne_self_eq_false,Bool.false_eq_true,if_false];congr 1
    .exact List.filter_eq_self.2 λx hx=>by
      have:=n3 x hx i (by simp);simpa using this
    .exact List.filter_eq_self.2 λx hx=>by
      have:x≠i:=λe=>n2.1 (e ▸ hx)
      simpa using this
   refine Qk5 hT hR hbs ((Qgl hbs (K' := λτ => base <= τ.s.heap.length/\dOps base hvl P tb N ops (A++B) τ K) (λτ h1 h2=>⟨h1,h2⟩) hfront)) λa' w' G' σ' s1 r1 d1 k1=>?_
   have hdn' : Down ops (listed.setIfInBounds i true):=λk o2 ho2 hk e he hb=>by
    refine getD_set_true ?_;by_cases hki:k=i
    .subst hki;rw[ho'] at ho2;cases ho2;exact hp e he hb
    .rw[getD_set_ne true (λe=>hki e.symm)] at hk;exact hdn k o2 ho2 hk e he hb
   refine Q6o hT hl hK hQ fuel _ σ' a' w' G' (by simp[hs]) hdn' ?_ (hE.trans (s1.ex _)) r1 (d1.trans hd) k1.1 ?_
   .rw[hnew];rw[hAB] at hf;simp at hf ⊢; omega
   .rw[hnew]; exact k1.2
theorem CallOK.fd{base:Nat}{f:FuncId}{args:List D}{hs hs' : List (List D)}{r:D}{lv' : List Nat}(k:CallOK P f args ⟨hs,[]⟩ r ⟨hs', lv'⟩)(e:hs' = hs)(e2:lv' = [])(I:List Nat){H:List (List D)}{L:List Nat}(c:Qu1 I [] base 0 args hs hs' lv' r=true)
  (eH:I.map (H.getD · [])=hs.map λcs=>cs.map (D.ren I [])):Qach base P f (args.map (D.ren I [])) ⟨H,L⟩ (r.ren I []) ⟨H,L⟩:=by
 subst e; subst e2;refine⟨rfl,λheap live hb he=>?_⟩;unfold Qu1 at c;simp only[Bool.and_eq_true] at c;obtain⟨⟨⟨⟨⟨⟨⟨⟨⟨c1,c2⟩,c3⟩,c4⟩,c5⟩,c6⟩,c7⟩,c8⟩,c9⟩,c10⟩:=c;have hlt:=Qkd c3;have nI:=Qc7 I c1;have eq:∀ i ∈ I,heap[i]? = H[i]? := λi hi=>by rw[Ql7 _ (hlt i hi),he,<-Ql7 _ (hlt i hi)]
 have eH' : I.map (heap.getD · [])=hs'.map λcs=>cs.map (D.ren I []):=by
  rw[<-eH];refine List.map_congr_left λi hi=>?_
  simp only[List.getD,eq i hi]
 have hlen:hs'.length=I.length:=by simpa using c5
 have:=k.frame I [] (H:=heap) (L:=live) nI List.nodup_nil (λi hi=>Nat.lt_of_lt_of_le (hlt i hi) hb) (λj hj=>by cases hj) eH' rfl hlen (Nat.le_refl _) c7 c8 c9 c10;have em:Qgw [] live.length ([]:List Nat).length=[]:=rfl;rw[em] at this;have el:updL live [] ([]:List Nat)++([]:List Nat).drop ([]:List Nat).length=live:=by simp[updL]
 rw[el] at this;rw[Q6a I _ heap nI λk i n hk hn=>?_] at this
 .exact this
 .have hi:i<heap.length:=Nat.lt_of_lt_of_le (hlt i (List.mem_of_getElem? hk)) hb;have g:=congrArg (·[k]?) eH';simp only[List.getElem?_map,hk,Option.map_some] at g;rw[List.getElem?_map] at hn;rw[hn] at g;rw[Qbt hi []];exact g
theorem Q86{α : Type}{base:Nat}:∀ (I:List Nat) (N H H' : List α),(∀ i ∈ I,i<base)->H'.take base=H.take base->(updL H' I N).drop base=H'.drop base/\(updL H' I N).take base=(updL H I N).take base
 | [],N,H,H', _,h=>by cases N<;>exact⟨rfl,h⟩
 | i::I,[],H,H', _,h=>⟨rfl,h⟩
 | i::I,n::N,H,H', hI,h=>by
  have h0:=hI i (by simp);have:=Q86 I N (H.set i n) (H'.set i n) (λk hk=>hI k (by simp[hk])) (by rw[(Qsj _ _ h0).1,(Qsj _ _ h0).1,h]);exact⟨this.1.trans (Qsj _ _ h0).2,this.2⟩
theorem CallOK.fg{base:Nat}{f:FuncId}{args:List D}{hs hs' : List (List D)}{lv lv' : List Nat}{r:D}(k:CallOK P f args ⟨hs,lv⟩ r ⟨hs', lv'⟩)(I J:List Nat){H:List (List D)}{L:List Nat}(c:Qu1 I J base L.length args hs hs' lv' r=true)
  (eH:I.map (H.getD · [])=hs.map λcs=>cs.map (D.ren I J)) (eL:J.map (L.getD · 0)=lv) (hb:base<=H.length) :
  Qagz base P f (args.map (D.ren I J)) ⟨H,L⟩ (r.ren I (Qgw J L.length lv'.length)) ⟨updL H I (hs'.map λcs=>cs.map (D.ren I (Qgw J L.length lv'.length))),updL L J lv' ++ lv'.drop J.length⟩:=by
 unfold Qu1 at c;simp only[Bool.and_eq_true] at c;obtain⟨⟨⟨⟨⟨⟨⟨⟨⟨c1,c2⟩,c3⟩,c4⟩,c5⟩,c6⟩,c7⟩,c8⟩,c9⟩,c10⟩:=c;have hI' := Qkd c3;refine⟨by simp only[Qn6]; exact hb,(Q86 I _ H H hI' rfl).1,λheap hl he=>?_⟩;have eq:∀ i ∈ I,heap[i]? = H[i]? := λi hi=>by rw[Ql7 _ (hI' i hi),he,<-Ql7 _ (hI' i hi)]
 have eH' : I.map (heap.getD · [])=hs.map λcs=>cs.map (D.ren I J):=by
  rw[<-eH];refine List.map_congr_left λi hi=>?_
  simp only[List.getD,eq i hi]
 have:=k.frame I J (H:=heap) (L:=L) (Qc7 I c1) (Qc7 J c2) (λi hi=>Nat.lt_of_lt_of_le (hI' i hi) hl) (Qkd c4) eH' eL (by simpa using c5) (Nat.le_of_ble_eq_true c6) c7 c8 c9 c10;obtain⟨u1,u2⟩:=Q86 I (hs'.map λcs=>cs.map (D.ren I (Qgw J L.length lv'.length))) H heap hI' he;rw[<-List.take_append_drop base (updL heap I _),u1,u2] at this;exact this
theorem PCall.d{base:Nat}{f:FuncId}{xs:List V}{r:D}{s:S}(h:PCall P f xs r):Qach base P f (xs.map .p) s r s:=⟨rfl,λ_ _ _ _=>h.ok _⟩
end
def Gh.has(G:Gh)(b:Nat):Prop:=b ∈ G.name\/∃ T ∈ G.tok,T.has b
theorem Inv.hasLt{G:Gh}{s:S}{w:World}(h:Inv G s w){b:Nat}(hb:G.has b):b<w.heap.size:=by
 rcases hb with hb | ⟨T,hT,hb⟩
 .exact Qd5 h b hb
 .obtain⟨t,ht⟩:=List.getElem?_of_mem hT;exact(h.tok t T b ht hb).1
theorem VRel.kept{M:Nat->Prop}{K:Nat->Nat->Prop}{w w' : World}{x:V}{u:Value}(h:VRel K w x u)(k:Kept M K w w'):VRel K w' x u:=h.mono k.size λb o u h1 h2=>⟨h1,k.cell b o u h1 h2⟩
theorem DRel.kept{G:Gh}{w w' : World}{d:D}{u:Value}(h:DRel G w d u)(k:Kept G.has G.com w w'):DRel G w' d u:=by
 induction h with
 | p x u h=>exact .p x u (h.kept k)
 | ptr nm off b h=>exact .ptr nm off b h
 | own t e size es u T h1 h2 h3 h0 h4 h5 =>
  refine .own t e size es u T (h1.kept k) h2 h3 h0 h4 λhe=>?_
  obtain⟨a,cap,rfl,h6⟩:=h5 he;refine⟨a,cap,rfl,h6.imp (λh=>⟨h.1,λad had=>Nat.lt_of_lt_of_le (h.2 ad had) k.size⟩) (Or.imp_left ?_)⟩;rintro ⟨b,us,T2,ha,g1,g2,g3,g4,g5⟩;exact⟨b,us,T2,ha,g1,g2,g3,g4.eq (k.blk b (.inr ⟨T2,List.mem_of_getElem? g1,.inl g2⟩)),g5⟩
 | fn f first cap us vs h1 h2 _ _ ih1 ih2=>exact .fn f first cap us vs h1 h2 ih1 ih2
 | yld t T p h1 h2=>exact .yld t T p h1 h2
 | sp P u b nm off i e n v h1 h2 h3 h4 h5 h6=>exact .sp P u b nm off i e n v h1 (k.shp i _ h2) h3 h4 h5 h6
 | agg cs us h1 h2 _ ih=>exact .agg cs us h1 h2 ih
 | tup cs us h1 _ ih=>exact .tup cs us h1 ih
 | sf ds b us h1 _ ih=>exact .sf ds b us (λi d hd=>⟨(h1 i d hd).1,k.cell _ _ _ (h1 i d hd).1 (h1 i d hd).2.1,(h1 i d hd).2.2⟩) ih
 | ef d b off u h1 h2 _ ih=>exact .ef d b off u h1 (k.cell _ _ _ h1 h2) ih
 | x t v X u T h1 h0 h2 h3 h4=>exact .x t v X u T h1 h0 h2 h3 λhe=>(h4 he).mono k.size (λb o u hc hu=>⟨hc,k.cell b o u hc hu⟩) λb hb=>k.blk b (.inr ⟨T,List.mem_of_getElem? h1,.inl hb⟩)
 | mh nm b h=>exact .mh nm b h
 | undef=>exact .undef
theorem Inv.kept{G:Gh}{s:S}{w w' : World}(h:Inv G s w)(k:Kept G.has G.com w w'):Inv G s w' := by
 refine⟨λb o hc=>?_,h.names,h.nodup,λi b cs hb hcs=>?_,h.live,λt T b hT hb=>?_,λT hT=>⟨λq hq=>?_,(h.pro T hT).2⟩,h.glob.mono λb o u h1 h2=>⟨h1,k.cell b o u h1 h2⟩⟩
 .obtain⟨h1,h2⟩:=h.com b o hc;exact⟨Nat.lt_of_lt_of_le h1 k.size,h2⟩
 .have e:=k.blk b (.inl (List.mem_of_getElem? hb));cases h.var i b cs hb hcs with
  | cells us ty h1 h2 h3=>exact .cells us ty (e.trans h1) h2 λj c u hc hu=>⟨(h3 j c u hc hu).1,(h3 j c u hc hu).2.kept k⟩
  | map fl ms es clock h1 h2 h3=>exact .map fl ms es clock h1 (e.trans h2) (h3.mono k.size λb o u hc hu=>⟨hc,k.cell b o u hc hu⟩)
 .obtain⟨h1,h2⟩:=h.tok t T b hT hb;exact⟨Nat.lt_of_lt_of_le h1 k.size,h2⟩
 .refine q.p.cl _ _ _ _ _ ((h.pro T hT).1 q hq) ⟨k.os,k.tape,k.output,k.size,λb hb=>k.blk b (.inr ⟨T,hT,.inr ⟨q,hq,hb⟩⟩),λb o u hr hu=>k.cell b o u ((h.pro T hT).2 b o ⟨q,hq,hr⟩) hu,k.shp⟩
theorem Rel.kept{N:Nat}{G:Gh}{σ : St}{a:Act}{w w' : World}(h:Rel N G σ a w)(k:Kept G.has G.com w w'):Rel N G σ a w' := ⟨h.inv.kept k,λt d hd=>⟨(h.env t d hd).1,(h.env t d hd).2.kept k⟩,h.size⟩
structure ExL (l:Nat) (B:Nat×Nat) (G:Gh) (w:World) (G' : Gh) (w' : World):Prop where
 os:w'.os=w.os
 tape:w'.tape=w.tape
 output:w'.output=w.output
 size:w.heap.size<=w'.heap.size
 com:∀ b o u,G.com b o->w.cell? ⟨b,o,none⟩=some u->G'.com b o/\w'.cell? ⟨b,o,none⟩=some u
 old:∀ b,b<w.heap.size->b≠l->¬ G.has b->w'.heap[b]? = w.heap[b]?
 new:∀ b o,G'.com b o->G.com b o\/w.heap.size<=b\/G.has b
 mine:∀ b,G'.has b->w.heap.size<=b\/G.has b
 mono:∀ b o,G.com b o->G'.com b o
 shp:ShKept w w'
 name:∀ (nm b:Nat),nm<B.1->G.name[nm]? = some b->G'.name[nm]? = some b
 tok:∀ (t:Nat) (T:Tok),t<B.2->G.tok[t]? = some T->∃ T', G'.tok[t]? = some T' /\ T.le T' /\ (T.len=T'.len->T' = T/\∀ b,T.has b->w'.heap[b]? = w.heap[b]?)
theorem Ex.l{B:Nat×Nat}{G G' : Gh}{w w' : World}(h:Ex B G w G' w')(l:Nat):ExL l B G w G' w' :=
 ⟨h.ext.os,h.ext.tape,h.ext.output,h.ext.size,h.ext.com,λb hb _ hn=>h.ext.old b hb (λhm=>hn (.inl hm)) (λT hT hb=>hn (.inr ⟨T,hT,hb⟩)),λb o hc=>by
  rcases h.ext.new b o hc with k | k | k | k
  .exact .inl k
  .exact .inr (.inl k)
  .exact .inr (.inr (.inl k))
  .exact .inr (.inr (.inr k)),λb hb=>by
  rcases h.ext.mine b hb with k | k | k
  .exact .inl k
  .exact .inr (.inl k)
  .exact .inr (.inr k),h.ext.mono,h.ext.shp,h.name,h.tok⟩
theorem ExL.trans{l:Nat}{B:Nat×Nat}{G G' G'' : Gh}{w w' w'' : World}(h:ExL l B G w G' w')(k:ExL l B G' w' G'' w''):ExL l B G w G'' w'' := by
 refine⟨k.os.trans h.os,k.tape.trans h.tape,k.output.trans h.output,Nat.le_trans h.size k.size,λb o u hc hu=>?_,λb hb hl hn=>?_,λb o hc=>?_,λb hb=>?_,λb o hc=>k.mono b o (h.mono b o hc),h.shp.trans k.shp,λnm b hl hb=>k.name nm b hl (h.name nm b hl hb),λt T hl hT=>?_⟩
 .obtain⟨h1,h2⟩:=h.com b o u hc hu;exact k.com b o u h1 h2
 .rw[k.old b (Nat.lt_of_lt_of_le hb h.size) hl λhm=>?_,h.old b hb hl hn];rcases h.mine b hm with h1 | h1
  .omega
  .exact hn h1
 .rcases k.new b o hc with h1 | h1 | h1
  .exact h.new b o h1
  .exact .inr (.inl (Nat.le_trans h.size h1))
  .exact .inr (h.mine b h1)
 .rcases k.mine b hb with h1 | h1
  .exact .inl (Nat.le_trans h.size h1)
  .exact h.mine b h1
 .obtain⟨T', hT', h1,h2⟩:=h.tok t T hl hT;obtain⟨T'', hT'', k1,k2⟩:=k.tok t T' hl hT';refine⟨T'', hT'', h1.trans k1,λhe=>?_⟩;obtain⟨e1,f1⟩:=h2 (by have:=h1.len; have:=k1.len; omega);obtain⟨e2,f2⟩:=k2 (by have:=h1.len; have:=k1.len; omega);subst e1;exact⟨e2,λb hb=>(f2 b hb).trans (f1 b hb)⟩
theorem Qgx{M:Nat->Prop}{K:Nat->Nat->Prop}{w:World}{l:Nat}{o:Obj}(o' : Obj)(_h:w.heap[l]? = some o)(ho:(∀ i,w.cell? ⟨l,i,none⟩=none)/\w.shape? l=none)(hl:¬ M l):Kept M K w (w.putObj l o') :=
 ⟨rfl,rfl,rfl,by simp,λb hb=>World.putObj_heap_other λe=>hl (e ▸ hb),λb i u _ hu=>by
  have hne:b≠l:=λe=>by rw[e,ho.1] at hu; cases hu
  rw[World.cell?_of_block (w:=w) (World.putObj_heap_other hne)]; exact hu,λb sh hb=>by
  have hne:b≠l:=λe=>by rw[e,ho.2] at hb; cases hb
  rw[Qjd (w:=w) (World.putObj_heap_other hne)]; exact hb⟩
theorem Q1x{B:Nat×Nat}{G:Gh}{w:World}{l:Nat}{o:Obj}(o' : Obj)(h:w.heap[l]? = some o)(ho:(∀ i,w.cell? ⟨l,i,none⟩=none)/\w.shape? l=none)(hl:¬ G.has l):ExL l B G w G (w.putObj l o'):=by
 have k:Kept G.has G.com w (w.putObj l o'):=Qgx o' h ho hl;exact⟨k.os,k.tape,k.output,k.size,λb i u hc hu=>⟨hc,k.cell b i u hc hu⟩,λb _ hne _=>World.putObj_heap_other hne,λ_ _ h =>.inl h,λ_ h =>.inr h,λ_ _ h=>h,k.shp,λ_ _ _ h=>h,λt T _ hT=>⟨T,hT,.refl T,λ_=>⟨rfl,λb hb=>k.blk b (.inr ⟨T,List.mem_of_getElem? hT,hb⟩)⟩⟩⟩
theorem Ex.thenL{l:Nat}{B:Nat×Nat}{G G' G'' : Gh}{w w' w'' : World}(h:Ex B G w G' w')(k:ExL l B G' w' G'' w'')(hl:w.heap.size<=l):Ex B G w G'' w'' := by
 have t:=(h.l l).trans k;refine⟨⟨t.os,t.tape,t.output,t.size,t.com,λb hb hn ht=>t.old b hb (by omega) λhm=>?_,λb o hc=>?_,λb hb=>?_,t.mono,t.shp⟩,t.name,t.tok⟩
 .rcases hm with hm | ⟨T,hT,hm⟩
  .exact hn hm
  .exact ht T hT hm
 .rcases t.new b o hc with k | k | k
  .exact .inl k
  .exact .inr (.inl k)
  .exact .inr (.inr k)
 .exact t.mine b hb
theorem Ex.kept{B:Nat×Nat}{G G' : Gh}{w w' w'' : World}(h:Ex B G w G' w')(k:Kept G'.has G'.com w' w'')(hb:∀ b,b<w.heap.size->w''.heap[b]? = w'.heap[b]?):Ex B G w G' w'' := by
 refine⟨⟨k.os.trans h.ext.os,k.tape.trans h.ext.tape,k.output.trans h.ext.output,Nat.le_trans h.ext.size k.size,λb o u hc hu=>?_,λb hlt hn ht=>(hb b hlt).trans (h.ext.old b hlt hn ht),h.ext.new,h.ext.mine,h.ext.mono,h.ext.shp.trans k.shp⟩,h.name,λt T hl hT=>?_⟩
 .obtain⟨h1,h2⟩:=h.ext.com b o u hc hu;exact⟨h1,k.cell b o u h1 h2⟩
 .obtain⟨T', hT', h1,h2⟩:=h.tok t T hl hT;refine⟨T', hT', h1,λhe=>?_⟩;obtain⟨rfl,h3⟩:=h2 he;exact⟨rfl,λb hb=>(k.blk b (.inr ⟨T', List.mem_of_getElem? hT', hb⟩)).trans (h3 b hb)⟩
theorem Ex.stp{k m:Nat}{G G' : Gh}{w w' : World}(h:Ex (k,m) G w G' w')(h1:G.name.length<=k)(h2:G.tok.length<=m):Stp G w G' w' :=
 ⟨h.ext,λnm b hb=>h.name nm b (Nat.lt_of_lt_of_le (List.getElem?_eq_some_iff.1 hb).1 h1) hb,λt T hT=>h.tok t T (Nat.lt_of_lt_of_le (List.getElem?_eq_some_iff.1 hT).1 h2) hT⟩
theorem ExL.stays{l:Nat}{B:Nat×Nat}{G G' : Gh}{w w' : World}(h:ExL l B G w G' w'){b:Nat}(hlt:b<w.heap.size)(hl:b≠l)(hn:¬ G.has b):w'.heap[b]? = w.heap[b]? /\ ¬ G'.has b :=
 ⟨h.old b hlt hl hn,λhm=>by
  rcases h.mine b hm with k | k
  .omega
  .exact hn k⟩
theorem ExL.not{l:Nat}{B:Nat×Nat}{G G' : Gh}{w w' : World}(h:ExL l B G w G' w'){b:Nat}(hlt:b<w.heap.size)(hn:¬ G.has b):¬ G'.has b:=λhm=>by
 rcases h.mine b hm with k | k
 .omega
 .exact hn k
theorem Qag3{B:Nat×Nat}{G:Gh}{s:S}{w w' : World}(hI:Inv G s w)(h:Below w.heap.size w w'):Ex B G w G w' :=
 ⟨⟨h.os,h.tape,h.output,h.size,λb o u hc hu=>⟨hc,by rw[h.cell (p:=⟨b,o,none⟩) (hI.com b o hc).1]; exact hu⟩,λb hb _ _=>h.block b hb,λ_ _ h =>.inl h,λb hb =>.inr hb,λ_ _ h=>h,λb sh hk=>by rw[Qjd (h.block b (Qn1 hk))]; exact hk⟩,λ_ _ _ h=>h,
  λt T _ hT=>⟨T,hT,.refl T,λ_=>⟨rfl,λb hb=>h.block b (hI.tok t T b hT hb).1⟩⟩⟩
theorem Q1y{G:Gh}{s:S}{w w' : World}(hI:Inv G s w)(h:Below w.heap.size w w'):Kept G.has G.com w w' :=
 ⟨h.os,h.tape,h.output,h.size,λb hb=>h.block b (hI.hasLt hb),λb o u hc hu=>by rw[h.cell (p:=⟨b,o,none⟩) (hI.com b o hc).1]; exact hu,λb sh hk=>by rw[Qjd (h.block b (Qn1 hk))]; exact hk⟩
section
variable {P:Program} {tb:Tbl}
structure Qam4 (P:Program) (f:FuncId) (args:List D) (s:S) (R:D->S->Prop):Prop where
 fn:isFn P f=true
 out:∀ (G:Gh) (w:World) (us:Array Value),Inv G s w->us.size=args.length->(∀ (j:Nat) d u,args[j]? = some d->us[j]? = some u->DRel G w d u) ->
  Calls P f us w λe w' => ∃ u G' r s', e = .returned u/\Stp G w G' w' /\ Inv G' s' w' /\ DRel G' w' r u/\R r s'
def IterOK(P:Program)(g:FuncId)(cap:List V)(xs:List (List V)):Prop :=
 Qam4 P g (.yld P 0 xs::cap.map .p) ⟨[],[0]⟩ λ_ s' => s' = ⟨[],[xs.length]⟩\/s' = ⟨[],[xs.length+1]⟩
def putP:List Nat->List V->Env->Env
 | p::ps,v::vs,env=>putP ps vs ((p,.p v)::env)
 | _,_,env=>env
def RL(k m:Nat)(P:Program)(N:Nat)(ps:List Nat)(asn body:Code)(env:Env)(Q:Exit->St->Prop):List (List V)->S->Prop
 | [],s=>Q .normal ⟨env,s⟩
 | x::r,s=>T (k,m) P N asn (λe σ1=>e = .normal/\T (k,m) P N body (λe σ2=>∃ s', Le (k,m) N ⟨[],σ2.s⟩ ⟨[],s'⟩/\s'.heap.length=k/\s'.live.length=m /\
   match e with
   | .normal=>RL k m P N ps asn body env Q r s'
   | .ret=>Q .ret ⟨env,s'⟩
   | .exit i=>Q (.exit i) ⟨env,s'⟩
   | _=>False) σ1) ⟨putP ps x env,s⟩
theorem Qaa3{G:Gh}{w:World}:∀ (ps:List Nat) (x:List V) (us:List Value) (env:Env) (tm:Array Value),us.length=x.length->(∀ (j:Nat) c u,x[j]? = some c->us[j]? = some u->VRel G.com w c u)->(∀ t ∈ ps,t<tm.size) ->
  (∀ t d,env.lookup t=some d->t<tm.size/\DRel G w d (tm.getD t undef)) ->
  ((ps.zip us).foldl (λt (p,v)=>t.setIfInBounds p v) tm).size=tm.size/\∀ t d,(putP ps x env).lookup t=some d->t<tm.size/\DRel G w d (((ps.zip us).foldl (λt (p,v)=>t.setIfInBounds p v) tm).getD t undef)
 | [],_,_,env,tm,_,_,_,h=>⟨rfl,by simpa [putP] using h⟩
 | p::ps,[],us,env,tm,hl,_,_,h=>by
  have:us=[]:=List.eq_nil_of_length_eq_zero (by simpa using hl);subst this;exact⟨rfl,by simpa [putP] using h⟩
 | p::ps,v::vs,[],env,tm,hl,_,_,h=>by simp at hl
 | p::ps,v::vs,u::us,env,tm,hl,hr,hp,h=>by
  have hsz:(tm.setIfInBounds p u).size=tm.size:=by simp
  obtain⟨h1,h2⟩:=Qaa3 ps vs us ((p,.p v)::env) (tm.setIfInBounds p u) (by simpa using hl) (λj c u hc hu=>hr (j+1) c u (by simpa using hc) (by simpa using hu)) (λt ht=>by rw[hsz]; exact hp t (by simp[ht])) (λt d hd=>by
   rw[hsz];rw[List.lookup_cons] at hd;by_cases ht:t=p
   .subst ht;simp only[beq_self_eq_true,Option.some.injEq] at hd;subst hd;have hlt:=hp t (by simp);exact⟨hlt,.p _ _ (by simpa [Array.getD_eq_getD_getElem?,hlt] using hr 0 v u rfl rfl)⟩
   .have hb:(t==p)=false:=by simpa using ht
    rw[hb] at hd;obtain⟨k1,k2⟩:=h t d hd;have hne:p≠t:=λe=>ht e.symm
    exact⟨k1,by simpa [Array.getD_eq_getD_getElem?,Array.getElem?_setIfInBounds,hne] using k2⟩)
  rw[hsz] at h1 h2;exact⟨h1,h2⟩
theorem Qjm{w:World}{l:Nat}{r:Loop}(h:w.heap[l]? = some (.loop r)):(∀ i,w.cell? ⟨l,i,none⟩=none)/\w.shape? l=none:=⟨λi=>by simp[World.cell?,h],by simp[World.shape?,h]⟩
theorem Qsk{w:World}{l:Nat}{r:Option (List Deferred)}(h:w.heap[l]? = some (.deferred r)):(∀ i,w.cell? ⟨l,i,none⟩=none)/\w.shape? l=none:=⟨λi=>by simp[World.cell?,h],by simp[World.shape?,h]⟩
theorem Qaci{rd:Option Nat}{lo:Lo}{G:Gh}{a:Act}{w:World}(hF:Fr rd lo G a w)(fn:FuncId)(ps:Array Tmp)(asn body:Code) :
  ∃ (l:Nat) (Ds:List Nat) (w1:World) (rec:LoopState->Option Code->Loop),(Instr.enterLoop fn a.tmps ps asn body (FW rd).round).run P w = .ok (l,Ds.map Ql6) w1 /\
   (∀ st pe,(rec st pe).state=st/\(rec st pe).pending=pe/\(rec st pe).fn=fn/\(rec st pe).tmps=a.tmps/\(rec st pe).params=ps/\(rec st pe).assign=asn/\(rec st pe).body=body) /\
   (∀ st pe st' pe', { rec st pe with state:=st', pending:=pe' }=rec st' pe') /\
   w1.heap[l]? = some (.loop (rec .ready none))/\w.heap.size<=l/\Below w.heap.size w w1/\Ds.Nodup/\∀ b ∈ Ds,w.heap.size<=b/\b≠l/\w1.heap[b]? = some (.deferred (some [])):=by
 rw[Q2s];cases rd with
 | none =>
  refine⟨_,[w.heap.size],_,λst pe=>{ state:=st,pending:=pe,fn,tmps:=a.tmps,params:=ps,assign:=asn,body,defers:=w.heap.size },run_enterLoop_outer _ _ _ _ _,λ_ _=>⟨rfl,rfl,rfl,rfl,rfl,rfl,rfl⟩,λ_ _ _ _=>rfl,?_,by omega,((Below.refl _ w).alloc (Nat.le_refl _) _).alloc (by simp) _,by simp,λb hb=>?_⟩
  .have:=World.alloc_heap_new (w.alloc (.deferred (some []))) (.loop { state :=.ready,pending:=none,fn,tmps:=a.tmps,params:=ps,assign:=asn,body,defers:=w.heap.size })
   rwa [World.size_alloc] at this
  .simp only[List.mem_singleton] at hb;subst hb;exact⟨Nat.le_refl _,by omega,(Below.heap_alloc _ _ _ (by simp)).trans (World.alloc_heap_new w _)⟩
 | some l0 =>
  obtain⟨⟨r0,h0⟩,-⟩:=hF.round l0 rfl;refine⟨_,[],_,λst pe=>{ state:=st,pending:=pe,fn,tmps:=a.tmps,params:=ps,assign:=asn,body,defers:=r0.defers },run_enterLoop_inner h0 _ _ _ _ _,λ_ _=>⟨rfl,rfl,rfl,rfl,rfl,rfl,rfl⟩,λ_ _ _ _=>rfl,World.alloc_heap_new w _,Nat.le_refl _,(Below.refl _ w).alloc (Nat.le_refl _) _,List.nodup_nil,λ_ h=>(nomatch h)⟩
theorem DRel.com{G:Gh}{C:Nat->Nat->Prop}{w:World}{d:D}{u:Value}(h:DRel G w d u)(hc:∀ b o,G.com b o->C b o):DRel ⟨C,G.name,G.tok⟩ w d u:=by
 induction h with
 | p x u h=>exact .p x u (h.mono (Nat.le_refl _) λb o u h1 h2=>⟨hc b o h1,h2⟩)
 | ptr nm off b h=>exact .ptr nm off b h
 | own t e size es u T h1 h2 h3 h0 h4 h5 =>
  refine .own t e size es u T (h1.mono (Nat.le_refl _) λb o u h1 h2=>⟨hc b o h1,h2⟩) h2 h3 h0 h4 λhe=>?_
  obtain⟨a,cap,rfl,h6⟩:=h5 he;exact⟨a,cap,rfl,h6.imp id (Or.imp_left λ⟨b,us,T2,ha,g⟩=>⟨b,us,T2,ha,g⟩)⟩
 | fn f first cap us vs h1 h2 _ _ ih1 ih2=>exact .fn f first cap us vs h1 h2 ih1 ih2
 | yld t T p h1 h2=>exact .yld t T p h1 h2
 | sp P u b nm off i e n v h1 h2 h3 h4 h5 h6=>exact .sp P u b nm off i e n v h1 h2 h3 h4 h5 h6
 | agg cs us h1 h2 _ ih=>exact .agg cs us h1 h2 ih
 | tup cs us h1 _ ih=>exact .tup cs us h1 ih
 | sf ds b us h1 _ ih=>exact .sf ds b us (λi d hd=>⟨hc _ _ (h1 i d hd).1,(h1 i d hd).2⟩) ih
 | ef d b off u h1 h2 _ ih=>exact .ef d b off u (hc _ _ h1) h2 ih
 | x t v X u T h1 h0 h2 h3 h4=>exact .x t v X u T h1 h0 h2 h3 λhe=>(h4 he).mono (Nat.le_refl _) (λb o u h1 h2=>⟨hc b o h1,h2⟩) λ_ _=>rfl
 | mh nm b h=>exact .mh nm b h
 | undef=>exact .undef
def LoopSt (P : Program) (N : Nat) (ps : Array Tmp) (asn body : Code) (env : Env) (Q : Exit → St → Prop) (xs : List (List V)) (k0 m0 : Nat) (G0 : Gh) (w0 : World) (sz1 l : Nat) (Ds : List Nat) (rec : LoopState → Option Code → Loop) (k : Nat) (M : Nat → Prop) (K : Nat → Nat → Prop) (W : World) : Prop :=
  ∃ (Gc : Gh) (s : S), (∀ b, M b ↔ b < sz1 ∨ Gc.has b) ∧ (∀ b o, K b o ↔ Gc.com b o) ∧ Ex (k0, m0) G0 w0 Gc W ∧ Inv Gc s W ∧ s.heap.length = k0 ∧ s.live.length = m0 ∧
    (∀ b ∈ Ds, W.heap[b]? = some (.deferred (some [])) ∧ ¬ Gc.has b) ∧ ¬ Gc.has l ∧
    ((k ≤ xs.length ∧ W.heap[l]? = some (.loop (rec .ready none)) ∧ RL k0 m0 P N ps.toList asn body env Q (xs.drop k) s) ∨
     (k = xs.length + 1 ∧ ∃ c e, W.heap[l]? = some (.loop (rec .done (some c))) ∧ (c = .ret ∧ e = .ret ∨ ∃ i, c = .exit i ∧ e = .exit i) ∧ Q e ⟨env, s⟩))
section
variable {N:Nat} {ps:Array Tmp} {asn body:Code} {env:Env} {Q:Exit->St->Prop} {xs:List (List V)} {k0 m0:Nat} {G0:Gh} {w0:World} {sz1 l:Nat} {Ds:List Nat} {rec:LoopState->Option Code->Loop}
theorem LoopSt.cl(h0:w0.heap.size<=sz1)(hl:l<sz1)(hD:∀ b ∈ Ds,b<sz1){k:Nat}{M:Nat->Prop}{K:Nat->Nat->Prop}{W W' : World}(h:LoopSt P N ps asn body env Q xs k0 m0 G0 w0 sz1 l Ds rec k M K W)(hk:Kept M K W W'):LoopSt P N ps asn body env Q xs k0 m0 G0 w0 sz1 l Ds rec k M K W' := by
 obtain⟨Gc,s,h1,h2,h3,h4,h5,h6,h7,h8,h9⟩:=h;have kk:Kept Gc.has Gc.com W W' := ⟨hk.os,hk.tape,hk.output,hk.size,λb hb=>hk.blk b ((h1 b).2 (.inr hb)),λb o u hc=>hk.cell b o u ((h2 b o).2 hc),hk.shp⟩;have hlt:∀ b,b<sz1->W'.heap[b]? = W.heap[b]? := λb hb=>hk.blk b ((h1 b).2 (.inl hb))
 refine⟨Gc,s,h1,h2,h3.kept kk λb hb=>hlt b (by omega),h4.kept kk,h5,h6,λb hb=>⟨by rw[hlt b (hD b hb)]; exact(h7 b hb).1,(h7 b hb).2⟩,h8,?_⟩;rw[hlt l hl];exact h9
theorem LoopSt.law{a:Act}(hN:a.tmps.size=N)(hrec:∀ st pe,(rec st pe).state=st/\(rec st pe).pending=pe/\(rec st pe).tmps=a.tmps/\(rec st pe).params=ps/\(rec st pe).assign=asn/\(rec st pe).body=body)
  (hrec2:∀ st pe st' pe', { rec st pe with state:=st', pending:=pe' }=rec st' pe') (h0:w0.heap.size<=l) (hl:l<sz1) (hD:∀ b ∈ Ds,b≠l) (henv:EnvRel G0 w0 env a) (hk0:G0.name.length=k0) (hm0:G0.tok.length=m0)
  (hps:∀ x ∈ xs,x.length=ps.size) (hpl:∀ t ∈ ps.toList,t<N) (k:Nat) (M:Nat->Prop) (K C:Nat->Nat->Prop) (W:World) (x:List V) (us:Array Value)
  (hst:LoopSt P N ps asn body env Q xs k0 m0 G0 w0 sz1 l Ds rec k M K W) (hx:xs[k]? = some x) (hus:us.size=x.length) (hrel:∀ (j:Nat) c u,x[j]? = some c->us[j]? = some u->VRel C W c u) (hKC:∀ b o,K b o->C b o)
  (hC:∀ b o,C b o->b<W.heap.size/\(M b->K b o)) (hM:∀ b,M b->b<W.heap.size):YieldAt Fence.wide 0 P l us W λe w' =>
   ∃ k' M' K', ((e = .returned (.bool true)/\k' = k+1)\/(e = .returned (.bool false)/\k' = xs.length+1))/\LoopSt P N ps asn body env Q xs k0 m0 G0 w0 sz1 l Ds rec k' M' K' w' /\ Yld M C W M' K' w' := by
 obtain⟨Gc,s,hM', hK', hE,hI,hs1,hs2,hDs,hlc,hcase⟩:=hst;have hkx:k<xs.length:=(List.getElem?_eq_some_iff.1 hx).1;obtain⟨hloop,hRL⟩:W.heap[l]? = some (.loop (rec .ready none))/\RL k0 m0 P N ps.toList asn body env Q (xs.drop k) s:=by
  rcases hcase with ⟨-,h1,h2⟩ | ⟨h1,-⟩
  .exact⟨h1,h2⟩
  .omega
 have hdrop:xs.drop k=x::xs.drop (k+1):=by
  rw[List.drop_eq_getElem_cons hkx];congr 1;exact(List.getElem?_eq_some_iff.1 hx).2
 rw[hdrop] at hRL;have hRL:T (k0,m0) P N asn (λe σ1=>e = .normal/\T (k0,m0) P N body (λe σ2=>∃ s', Le (k0,m0) N ⟨[],σ2.s⟩ ⟨[],s'⟩/\s'.heap.length=k0/\s'.live.length=m0 /\
   match e with
   | .normal=>RL k0 m0 P N ps.toList asn body env Q (xs.drop (k+1)) s'
   | .ret=>Q .ret ⟨env,s'⟩
   | .exit i=>Q (.exit i) ⟨env,s'⟩
   | _=>False) σ1) ⟨putP ps.toList x env,s⟩:=hRL
 have hMh:∀ b,Gc.has b->M b:=λb hb=>(hM' b).2 (.inr hb)
 have hcC:∀ b o,Gc.com b o->C b o:=λb o h=>hKC b o ((hK' b o).2 h)
 have hMc:∀ b o,C b o->M b->Gc.com b o:=λb o hc hm=>(hK' b o).1 ((hC b o hc).2 hm)
 obtain⟨Gr,hGr⟩:∃ Gr:Gh,Gr=⟨C,Gc.name,Gc.tok⟩:=⟨_,rfl⟩;have hhas:∀ b,Gr.has b↔Gc.has b:=λb=>by subst hGr; exact Iff.rfl
 have hIr:Inv Gr s W:=by
  subst hGr;refine⟨λb o hc=>⟨(hC b o hc).1,λhn=>(hI.com b o (hMc b o hc (hMh b (.inl hn)))).2.1 hn,λT hT=>?_⟩,hI.names,hI.nodup,λi b cs hb hcs=>?_,hI.live,hI.tok,λT hT=>⟨(hI.pro T hT).1,λb o hr=>hcC b o ((hI.pro T hT).2 b o hr)⟩,hI.glob.mono λb o u h1 h2=>⟨hcC b o h1,h2⟩⟩
  .have key:T.has b->T.may b o:=λhb=>(hI.com b o (hMc b o hc (hMh b (.inr ⟨T,hT,hb⟩)))).2.2 T hT
   exact⟨λhb=>(key (.inl hb)).1 hb,λhb=>(key (.inr hb)).2 hb⟩
  .cases hI.var i b cs hb hcs with
   | cells vs ty v1 v2 v3=>exact .cells vs ty v1 v2 λj c u hc hu=>⟨(v3 j c u hc hu).1,(v3 j c u hc hu).2.com hcC⟩
   | map fl ms es clock v1 v2 v3=>exact .map fl ms es clock v1 v2 (v3.mono (Nat.le_refl _) λb o u h1 h2=>⟨hcC b o h1,h2⟩)
 have hEr:Ex (k0,m0) G0 w0 Gr W:=by
  subst hGr;refine⟨⟨hE.ext.os,hE.ext.tape,hE.ext.output,hE.ext.size,λb o u hc hu=>⟨hcC b o (hE.ext.com b o u hc hu).1,(hE.ext.com b o u hc hu).2⟩,hE.ext.old,λb o hc=>?_,hE.ext.mine,λb o hc=>hcC b o (hE.ext.mono b o hc),hE.ext.shp⟩,hE.name,hE.tok⟩;by_cases hb:w0.heap.size<=b
  .exact .inr (.inl hb)
  .exact hE.ext.new b o (hMc b o hc ((hM' b).2 (.inl (by omega))))
 have hlr:¬ Gr.has l:=λh=>hlc ((hhas l).1 h)
 have hlW:l<W.heap.size:=(Array.getElem?_eq_some_iff.1 hloop).1;obtain⟨r1,r2,r3,r4,r5,r6⟩:=hrec .ready none;have hy:=run_yield (P:=P) (args:=us) hloop (by rw[r4,hus]; exact hps x (List.mem_of_getElem? hx));rw[r3,r4,r5,r6] at hy;refine⟨_,_,_,_,hy,roundIn_of_wpIn trivial ?_⟩;clear hy;have hfold:(ps.zip us).foldl (λtmps (t,a)=>tmps.setIfInBounds t a) a.tmps=(ps.toList.zip us.toList).foldl (λt (p,v)=>t.setIfInBounds p v) a.tmps:=by
  rw[<-Array.foldl_toList,Array.toList_zip]
 rw[hfold];obtain⟨p1,p2⟩:=Qaa3 (G:=Gr) (w:=W) ps.toList x us.toList env a.tmps (by simpa using hus) (λj c u hc hu=>by subst hGr; exact hrel j c u hc (by simpa using hu)) (λt ht=>by rw[hN]; exact hpl t ht)
  (λt d hd=>⟨(henv t d hd).1,(henv t d hd).2.mono (hEr.stp (by omega) (by omega))⟩)
 have hRr:Rel N Gr ⟨putP ps.toList x env,s⟩ { tmps:=(ps.toList.zip us.toList).foldl (λt (p,v)=>t.setIfInBounds p v) a.tmps,defers:=[] } W:=⟨hIr,λt d hd=>by
  rw[p1]; exact p2 t d hd,by rw[p1]; exact hN⟩
 have hFr:Fr (some l) ⟨W.heap.size,[]⟩ Gr { tmps:=(ps.toList.zip us.toList).foldl (λt (p,v)=>t.setIfInBounds p v) a.tmps,defers:=[] } W :=
  ⟨⟨[],rfl,List.nodup_nil,λ_ h=>(nomatch h)⟩,λl' h=>by cases h; exact⟨⟨_,hloop⟩,λhn=>hlr (.inl hn),λT hT hb=>hlr (.inr ⟨T,hT,hb⟩)⟩,Nat.le_refl _⟩
 refine wpIn_mono (hRL.out (some l) ⟨W.heap.size,[]⟩ Gr _ W hRr hFr) ?_;rintro e a1 W1 ⟨Ga,σ1,hE1,hR1,hF1,rfl,hbody⟩;obtain⟨hloop1,hl1⟩:W1.heap[l]? = some (.loop (rec .ready none))/\¬ Ga.has l:=by
  obtain⟨q1,q2,q3⟩:=hE1.ext.stays hloop (λhn=>hlr (.inl hn)) (λT hT hb=>hlr (.inr ⟨T,hT,hb⟩));exact⟨q1,λh=>h.elim q2 λ⟨T,hT,hb⟩=>q3 T hT hb⟩
 refine⟨_,run_beginRound hloop1 r1,?_⟩;have hbusy:({ rec .ready none with state :=.busy }:Loop)=rec .busy none:=by
  have h2:=hrec2 .ready none .busy none;rw[<-h2];clear h2;generalize rec .ready none=rr at r2 ⊢;cases rr;simp only at r2 ⊢;rw[r2]
 rw[hbusy];obtain⟨W2,hW2⟩:∃ W2,W1.putObj l (.loop (rec .busy none))=W2:=⟨_,rfl⟩;rw[hW2];have hlW1:l<W1.heap.size:=(Array.getElem?_eq_some_iff.1 hloop1).1;have hloop2:W2.heap[l]? = some (.loop (rec .busy none)):=by rw[<-hW2]; exact World.putObj_heap_same hlW1
 have hX12:ExL l (k0,m0) Ga W1 Ga W2:=by rw[<-hW2]; exact Q1x _ hloop1 (Qjm hloop1) hl1
 have hR2:Rel N Ga σ1 a1 W2:=by rw[<-hW2]; exact hR1.kept (Qgx _ hloop1 (Qjm hloop1) hl1)
 have hF2:Fr (some l) ⟨W.heap.size,[]⟩ Ga a1 W2:=by
  obtain⟨Ds', m1,m2,m3⟩:=hF1.marks;refine⟨⟨Ds', m1,m2,λb hb=>?_⟩,λl' h=>by cases h; exact⟨⟨_,hloop2⟩,λhn=>hl1 (.inl hn),λT hT hb=>hl1 (.inr ⟨T,hT,hb⟩)⟩,Nat.le_trans hF1.size hX12.size⟩;obtain⟨g1,g2,g3⟩:=m3 b hb;refine⟨g1,?_,g3⟩;rw[<-hW2,World.putObj_heap_other λe=>?_]
  .exact g2
  .subst e; rw[hloop1] at g2; cases g2
 refine wpIn_mono (hbody.out (some l) ⟨W.heap.size,[]⟩ Ga a1 W2 hR2 hF2) ?_;rintro e a2 W3 ⟨Gb,σ2,hE3,hR3,hF3,s', hle,hs1', hs2', hq⟩;obtain⟨Gd,hE4,hR4⟩:=hle.out Gb a2 W3 ⟨hR3.inv,λt d h=>by simp at h,hR3.size⟩;obtain⟨hloop3,hlb⟩:W3.heap[l]? = some (.loop (rec .busy none))/\¬ Gb.has l:=by
  obtain⟨q1,q2,q3⟩:=hE3.ext.stays hloop2 (λhn=>hl1 (.inl hn)) (λT hT hb=>hl1 (.inr ⟨T,hT,hb⟩));exact⟨q1,λh=>h.elim q2 λ⟨T,hT,hb⟩=>q3 T hT hb⟩
 have hlW3:l<W3.heap.size:=(Array.getElem?_eq_some_iff.1 hloop3).1;have hld:¬ Gd.has l:=(hE4.l l).not hlW3 hlb;have fin:∀ (k' : Nat) (st:LoopState) (pe:Option Code),((k' <= xs.length/\st = .ready/\pe=none/\RL k0 m0 P N ps.toList asn body env Q (xs.drop k') s') \/
   (k' = xs.length+1/\st = .done/\∃ c e,pe=some c/\(c = .ret/\e = .ret\/∃ i,c = .exit i/\e = .exit i)/\Q e ⟨env,s'⟩)) ->
   LoopSt P N ps asn body env Q xs k0 m0 G0 w0 sz1 l Ds rec k' (λb=>b<sz1\/Gd.has b) Gd.com (W3.putObj l (.loop (rec st pe)))/\Yld M C W (λb=>b<sz1\/Gd.has b) Gd.com (W3.putObj l (.loop (rec st pe))):=λk' st pe hcs=>by
  obtain⟨W4,hW4⟩:∃ W4,W3.putObj l (.loop (rec st pe))=W4:=⟨_,rfl⟩;have hloop4:W4.heap[l]? = some (.loop (rec st pe)):=by rw[<-hW4]; exact World.putObj_heap_same hlW3
  have hX34:ExL l (k0,m0) Gd W3 Gd W4:=by rw[<-hW4]; exact Q1x _ hloop3 (Qjm hloop3) hld
  have hI4:Inv Gd s' W4:=by rw[<-hW4]; exact hR4.inv.kept (Qgx _ hloop3 (Qjm hloop3) hld)
  rw[hW4];have hX:ExL l (k0,m0) Gr W Gd W4:=(hE1.l l).trans (hX12.trans ((hE3.l l).trans ((hE4.l l).trans hX34)));refine⟨⟨Gd,s', λb=>Iff.rfl,λb o=>Iff.rfl,hEr.thenL hX h0,hI4,hs1', hs2', λb hb=>?_,hld,?_⟩,?_⟩
  .obtain⟨d1,d2⟩:=hDs b hb;obtain⟨d3,d4⟩:=hX.stays (Array.getElem?_eq_some_iff.1 d1).1 (hD b hb) (λh=>d2 ((hhas b).1 h));exact⟨d3.trans d1,d4⟩
  .rcases hcs with ⟨c1,rfl,rfl,c2⟩ | ⟨c1,rfl,c,e,rfl,c2,c3⟩
   .exact .inl ⟨c1,hloop4,c2⟩
   .exact .inr ⟨c1,c,e,hloop4,c2,c3⟩
  .refine⟨hX.os,hX.tape,hX.output,hX.size,λb hb hm=>hX.old b hb (λe=>hm ((hM' b).2 (.inl (e ▸ hl)))) λh=>hm (hMh b ((hhas b).1 h)),λb hb=>?_,λb o u hc hu=>hX.com b o u (by subst hGr; exact hc) hu,λb o hc=>⟨(hI4.com b o hc).1,?_⟩,λb o hc=>hX.mono b o (by subst hGr; exact hc),hX.shp⟩
   .rcases hb with hb | hb
    .have hm:=(hM' b).2 (.inl hb);exact⟨Nat.lt_of_lt_of_le (hM b hm) hX.size,.inl hm⟩
    .refine⟨hI4.hasLt hb,?_⟩;rcases hX.mine b hb with h | h
     .exact .inr h
     .exact .inl (hMh b ((hhas b).1 h))
   .rcases hX.new b o hc with h | h | h
    .exact .inl (by subst hGr; exact h)
    .exact .inr (.inl h)
    .exact .inr (.inr (hMh b ((hhas b).1 h)))
 have he:=λjump=>run_endRound (P:=P) jump hloop3
 cases e with
 | normal =>
  obtain⟨f1,f2⟩:=fin (k+1) .ready none (.inl ⟨hkx,rfl,rfl,hq⟩);refine⟨_,_,he none,k+1,(λb=>b<sz1\/Gd.has b),Gd.com,.inl ⟨rfl,rfl⟩,?_⟩;rw[hrec2];exact⟨f1,f2⟩
 | ret =>
  obtain⟨f1,f2⟩:=fin (xs.length+1) .done (some .ret) (.inr ⟨rfl,rfl,_,_,rfl,.inl ⟨rfl,rfl⟩,hq⟩);refine⟨_,_,he (some .ret),xs.length+1,(λb=>b<sz1\/Gd.has b),Gd.com,.inr ⟨rfl,rfl⟩,?_⟩;rw[hrec2];exact⟨f1,f2⟩
 | exit i =>
  obtain⟨f1,f2⟩:=fin (xs.length+1) .done (some (.exit i)) (.inr ⟨rfl,rfl,_,_,rfl,.inr ⟨i,rfl,rfl⟩,hq⟩);refine⟨_,_,he (some (.exit i)),xs.length+1,(λb=>b<sz1\/Gd.has b),Gd.com,.inr ⟨rfl,rfl⟩,?_⟩;rw[hrec2];exact⟨f1,f2⟩
 | goto t=>exact hq.elim
 | panic ch=>exact hq.elim
 | outgrown=>exact hq.elim
end
set_option maxHeartbeats 4000000 in
theorem Q3a{B:Nat×Nat}{N:Nat}{gop:Operand}{ps:Array Tmp}{asn body:Code}{Q:Exit->St->Prop}{σ : St}{g:FuncId}{cap:List V}{xs:List (List V)}
  (hg:ev σ.env gop=some (.fn (.func g) [] (cap.map .p))) (hit:IterOK P g cap xs) (hps:∀ x ∈ xs,x.length=ps.size) (hpl:ps.toList.all (Nat.blt · N)=true) (hB1:B.1 <= σ.s.heap.length) (hB2:B.2 <= σ.s.live.length)
  (hr:RL σ.s.heap.length σ.s.live.length P N ps.toList asn body σ.env Q xs σ.s):T B P N (.rangeFunc gop ps asn body) Q σ := ⟨λrd lo G a w hR hF=>by
 refine wpIn_rangeFunc ?_;intro fn hfn;obtain⟨l,Ds,w1,rec,h1,hrec,hrec2,hl1,hl0,hbel,hnd,hDs⟩:=Qaci (P:=P) hF fn ps asn body;have hI:=hR.inv;have hI1:Inv G σ.s w1:=hI.kept (Q1y hI hbel);have hE1:Ex (σ.s.heap.length,σ.s.live.length) G w G w1:=Qag3 hI hbel;have hnm:G.name.length = σ.s.heap.length:=hI.names;have htk:G.tok.length = σ.s.live.length:=by have:=congrArg List.length hI.live; simpa using this
 have hlW1:l<w1.heap.size:=(Array.getElem?_eq_some_iff.1 hl1).1;have hDlt:∀ b ∈ Ds,b<w1.heap.size:=λb hb=>(Array.getElem?_eq_some_iff.1 (hDs b hb).2.2).1
 have hfresh:∀ b,w.heap.size<=b->¬ G.has b:=λb hb hh=>by have:=hI.hasLt hh; omega
 have hlt:∀ t ∈ ps.toList,t<N:=Qkd hpl;obtain⟨us,hgv,hus,hur⟩:∃ us,a.eval gop = .func (.func g) #[] us/\us.size=cap.length/\∀ (j:Nat) c u,cap[j]? = some c->us[j]? = some u->VRel G.com w1 c u:=by
  have:=Qrz hR.env gop _ hg;generalize a.eval gop=q at this;cases this with
  | fn _ _ _ us vs k1 k2 k3 k4 =>
   have:us = #[]:=by simpa using k1.symm
   subst this;refine⟨vs,rfl,by simpa using k2.symm,λj c u hc hu=>?_⟩;have:=k4 j (.p c) u (by rw[List.getElem?_map,hc]; rfl) hu;cases this with | p _ _ h=>exact h.kept (Q1y hI hbel)
 obtain⟨LS,hLS⟩:∃ LS,LS=LoopSt P N ps asn body σ.env Q xs σ.s.heap.length σ.s.live.length G w w1.heap.size l Ds rec:=⟨_,rfl⟩;have hcl:∀ k M K W W', LS k M K W->Kept M K W W' -> LS k M K W' := by
  subst hLS;exact λk M K W W' h hk=>LoopSt.cl hbel.size hlW1 hDlt h hk
 have hlaw:∀ k M K C W x (us:Array Value),LS k M K W->xs[k]? = some x->us.size=x.length->(∀ (j:Nat) c u,x[j]? = some c->us[j]? = some u->VRel C W c u)->(∀ b o,K b o->C b o) ->
   (∀ b o,C b o->b<W.heap.size/\(M b->K b o))->(∀ b,M b->b<W.heap.size)->YieldAt Fence.wide 0 P l us W λe w' =>
    ∃ k' M' K', ((e = .returned (.bool true)/\k' = k+1)\/(e = .returned (.bool false)/\k' = xs.length+1))/\LS k' M' K' w' /\ Yld M C W M' K' w' := by
  subst hLS;intro k M K C W x us h hx hus hrel hKC hC hM;have hrec' : ∀ st pe,(rec st pe).state=st/\(rec st pe).pending=pe/\(rec st pe).tmps=a.tmps/\(rec st pe).params=ps/\(rec st pe).assign=asn/\(rec st pe).body=body:=λst pe=>by
   obtain⟨r1,r2,-,r3,r4,r5,r6⟩:=hrec st pe;exact⟨r1,r2,r3,r4,r5,r6⟩
  exact LoopSt.law (a:=a) hR.size hrec' hrec2 hl0 hlW1 (λb hb=>(hDs b hb).2.1) hR.env hnm htk hps hlt k M K C W x us h hx hus hrel hKC hC hM
 obtain⟨p,hp1,hp2,hp3,hp4⟩:∃ p:Pro,p.P=P/\p.l=l/\p.xs=xs/\p.st=LS:=⟨{ P:=P,l:=l,xs:=xs,st:=LS,cl:=hcl,law:=hlaw },rfl,rfl,rfl,rfl⟩;refine⟨l,Ds.map Ql6,w1,{ target :=.fn (.func g) us,args := #[.func (.yield l) #[] #[]] },w1,g,#[.func (.yield l) #[] #[]]++us,w1,h1,?_,?_,?_,?_,?_⟩
 .simp only[resolve,hgv];simp[go_sem]
 .exact λf' _=>Q50 _ _
 .simp[invoke,go_sem,Qpw hit.fn]
 .exact FW_n _
 apply Qtg;obtain⟨T0,hT0⟩:∃ T0:Tok,T0=⟨0,none,0,some ⟨λb=>b<w1.heap.size,G.com,p⟩⟩:=⟨_,rfl⟩;have hT0h:∀ b,T0.has b↔b<w1.heap.size:=λb=>by
  subst hT0;exact⟨λh=>h.elim (λh=>(nomatch h)) λ⟨q,hq,h⟩=>by cases hq; exact h,λh =>.inr ⟨_,rfl,h⟩⟩
 have hst0:LoopSt P N ps asn body σ.env Q xs σ.s.heap.length σ.s.live.length G w w1.heap.size l Ds rec 0 (λb=>b<w1.heap.size) G.com w1 :=
  ⟨G,σ.s,λb=>⟨.inl,λh=>h.elim id λh=>Nat.lt_of_lt_of_le (hI.hasLt h) hbel.size⟩,λb o=>Iff.rfl,hE1,hI1,rfl,rfl,λb hb=>⟨(hDs b hb).2.2,hfresh b (hDs b hb).1⟩,hfresh l hl0,.inl ⟨Nat.zero_le _,hl1,hr⟩⟩
 have hInv:Inv ⟨G.com,[],[T0]⟩ ⟨[],[0]⟩ w1:=by
  refine⟨λb o hc=>⟨(hI1.com b o hc).1,by simp,λT hT=>?_⟩,rfl,by simp,λi b cs h=>by simp at h,by subst hT0; rfl,λt T b hT hb=>?_,λT hT=>?_,hI1.glob⟩
  .simp only[List.mem_singleton] at hT;subst hT; subst hT0;exact⟨λh=>(nomatch h),λ_=>⟨_,rfl,hc⟩⟩
  .have hT' : T=T0:=by have:=List.mem_of_getElem? hT; simpa using this
   have ht:t=0:=by have:=(List.getElem?_eq_some_iff.1 hT).1; simpa using this
   subst hT'; subst ht;refine⟨(hT0h b).1 hb,by simp,λt' T' hT' _=>?_⟩;have:=(List.getElem?_eq_some_iff.1 hT').1;simpa using this
  .simp only[List.mem_singleton] at hT;subst hT; subst hT0;refine⟨λq hq=>?_,λb o ⟨q,hq,h⟩=>?_⟩
   .cases hq; rw[hp4,hLS]; exact hst0
   .cases hq; exact h
 have hcall:=hit.out ⟨G.com,[],[T0]⟩ w1 (#[.func (.yield l) #[] #[]]++us) hInv (by simp[hus]; omega) (λj d u hd hu=>by
  cases j with
  | zero =>
   have e1:d = .yld P 0 xs:=by simpa using hd.symm
   have e2:u = .func (.yield l) #[] #[]:=by
    rw[Array.getElem?_append_left (by simp)] at hu;simpa using hu.symm
   subst e1; subst e2;rw[<-hp1,<-hp2,<-hp3];exact .yld 0 T0 p rfl (by subst hT0; rfl)
  | succ j =>
   rw[List.getElem?_cons_succ,List.getElem?_map] at hd;obtain⟨c,hc,rfl⟩:=Option.map_eq_some_iff.1 hd;rw[Array.getElem?_append_right (by simp)] at hu;exact .p _ _ (hur j c u hc (by simpa using hu)))
 refine hcall.mono ?_;rintro e w2 ⟨u,Gi,r,s2,he,hS,hI2,-,hs2⟩;subst he;obtain⟨T2,hT2,hle,-⟩:=hS.tok 0 T0 rfl;have hT2m:T2 ∈ Gi.tok:=List.mem_of_getElem? hT2;obtain⟨q,hq,hqp⟩:∃ q,T2.pro=some q/\q.p=p:=by
  have:=hle.pro;subst hT0;obtain⟨q,hq,hqp⟩:=Option.map_eq_some_iff.1 this;exact⟨q,hq,hqp⟩
 have hst:=(hI2.pro T2 hT2m).1 q hq;rw[hqp,hp4,hLS] at hst;have hlen:T2.len=xs.length\/T2.len=xs.length+1:=by
  have hl2:=hI2.live;have e1:(Gi.tok.map (·.len))[0]? = some T2.len:=by rw[List.getElem?_map,hT2]; rfl
  rw[hl2] at e1;rcases hs2 with rfl | rfl
  .exact .inl (by simpa using e1.symm)
  .exact .inr (by simpa using e1.symm)
 obtain⟨Gc,s3,hM3,hK3,hE3,hI3,hs31,hs32,hD3,hl3,hcase⟩:=hst;have fin:∀ (r3:Loop) (o:Obj) (e:Exit),w2.heap[l]? = some (.loop r3)->Q e ⟨σ.env,s3⟩->∃ G' σ', Ex B G w G' (w2.putObj l o)/\Rel N G' σ' { a with defers:=Ds.map Ql6++a.defers } (w2.putObj l o)/\Fr rd lo G' { a with defers:=Ds.map Ql6++a.defers } (w2.putObj l o)/\Q e σ' := λr3 o e hr3 hq=>by
  obtain⟨w3,hw3⟩:∃ w3,w2.putObj l o=w3:=⟨_,rfl⟩;have hk3:Kept Gc.has Gc.com w2 w3:=by rw[<-hw3]; exact Qgx _ hr3 (Qjm hr3) hl3
  have hEE:Ex (σ.s.heap.length,σ.s.live.length) G w Gc w3:=hE3.kept hk3 λb hb=>by rw[<-hw3]; exact World.putObj_heap_other (by omega)
  have hSS:=hEE.stp (by omega) (by omega);rw[hw3];refine⟨Gc,⟨σ.env,s3⟩,hEE.le hB1 hB2,⟨hI3.kept hk3,hR.env.mono hSS,hR.size⟩,⟨?_,λl' hl' => ?_,Nat.le_trans hF.size hEE.ext.size⟩,hq⟩
  .obtain⟨Do,m1,m2,m3⟩:=hF.marks;refine⟨Ds++Do,by rw[List.map_append,m1,List.append_assoc],?_,λb hb=>?_⟩
   .rw[List.nodup_append];refine⟨hnd,m2,λb hb c hc e=>?_⟩;subst e;have:=(hDs b hb).1;have:=(Array.getElem?_eq_some_iff.1 (m3 b hc).2.1).1;omega
   .rcases List.mem_append.1 hb with hb | hb
    .obtain⟨d1,d2⟩:=hD3 b hb;refine⟨by have:=(hDs b hb).1; have:=hF.size; omega,?_,λhn=>d2 (.inl hn),λT hT ht=>d2 (.inr ⟨T,hT,ht⟩)⟩;rw[<-hw3,World.putObj_heap_other (hDs b hb).2.1]; exact d1
    .obtain⟨k1,k2,k3,k4⟩:=m3 b hb;exact⟨k1,hEE.ext.stays k2 k3 k4⟩
  .obtain⟨⟨r,k2⟩,k3,k4⟩:=hF.round l' hl';obtain⟨g1,g2⟩:=hEE.ext.stays k2 k3 k4;exact⟨⟨r,g1⟩,g2⟩
 rcases hcase with ⟨hk,hlp,hRL⟩ | ⟨hk,c,e,hlp,hce,hq⟩
 .have hk2:T2.len=xs.length:=by omega
  rw[hk2,List.drop_length] at hRL;have hRL:Q .normal ⟨σ.env,s3⟩:=hRL;obtain⟨o,ho⟩:∃ o,(Instr.endLoop l).run P w2 = .ok none (w2.putObj l o):=⟨_,(run_endLoop (P:=P) hlp (by rw[(hrec .ready none).1]; simp)).trans (congrArg (λz=>Result.ok z _) (hrec .ready none).2.1)⟩;exact⟨none,_,ho,fin _ o _ hlp hRL⟩
 .obtain⟨o,ho⟩:∃ o,(Instr.endLoop l).run P w2 = .ok (some c) (w2.putObj l o):=⟨_,(run_endLoop (P:=P) hlp (by rw[(hrec .done (some c)).1]; simp)).trans (congrArg (λz=>Result.ok z _) (hrec .done (some c)).2.1)⟩;refine⟨some c,_,ho,?_⟩;have hf:=fin _ o e hlp hq;rcases hce with ⟨rfl,rfl⟩ | ⟨i,rfl,rfl⟩
  .exact wpIn_ret hf
  .exact wpIn_exit hf⟩
end
section
variable {P:Program} {tb:Tbl}
def bnds(ops:List Oper)(i:Nat):List Nat:=match ops[i]? with | some o=>(o.after.toList.filter λe=>Region.binds .any e).map (·.on) | none=>[]
theorem Qtm{ops:List Oper}{i:Nat}{o:Oper}(ho:ops[i]? = some o){k:Nat}:k ∈ bnds ops i↔∃ e ∈ o.after,Region.binds .any e=true/\e.on=k:=by
 unfold bnds;rw[ho];simp[List.mem_map,List.mem_filter,and_assoc]
def Qaej(ops:List Oper)(j:Nat):Bool :=
 ops.length==j+6 &&
 ((List.range 6).all λi=>(List.range j).all λa=>(bnds ops (j+i)).contains a) &&
 ((List.range 5).all λi=>(bnds ops (j+1+i)).contains j) &&
 ((bnds ops j).all λk=>decide (k<j))&&((bnds ops (j+1)).all λk=>decide (k<j+1)) &&
 (bnds ops (j+2)).contains (j+1)&&((bnds ops (j+2)).all λk=>decide (k<j+2)) &&
 ((bnds ops (j+3)).all λk=>decide (k<j+1)) &&
 (bnds ops (j+4)).contains (j+3)&&((bnds ops (j+4)).all λk=>decide (k<j+1\/k=j+3)) &&
 (bnds ops (j+5)).contains (j+4)&&((bnds ops (j+5)).all λk=>decide (k<j+1\/k=j+3\/k=j+4))
structure Qaek (ops:List Oper) (j:Nat):Prop where
 len:ops.length=j+6
 pre:∀ i,i<6->∀ a,a<j->a ∈ bnds ops (j+i)
 one:∀ i,i<5->j ∈ bnds ops (j+1+i)
 b0:∀ k ∈ bnds ops j,k<j
 b1:∀ k ∈ bnds ops (j+1),k<j+1
 c2:j+1 ∈ bnds ops (j+2)
 b2:∀ k ∈ bnds ops (j+2),k<j+2
 b3:∀ k ∈ bnds ops (j+3),k<j+1
 c4:j+3 ∈ bnds ops (j+4)
 b4:∀ k ∈ bnds ops (j+4),k<j+1\/k=j+3
 c5:j+4 ∈ bnds ops (j+5)
 b5:∀ k ∈ bnds ops (j+5),k<j+1\/k=j+3\/k=j+4
theorem Q87{ops:List Oper}{j:Nat}(h:Qaej ops j=true):Qaek ops j:=by
 unfold Qaej at h;simp only[Bool.and_eq_true,beq_iff_eq,List.all_eq_true,List.contains_iff_mem,decide_eq_true_eq,List.mem_range] at h;obtain⟨⟨⟨⟨⟨⟨⟨⟨⟨⟨⟨h0,h1⟩,h2⟩,h3⟩,h4⟩,h5⟩,h6⟩,h7⟩,h8⟩,h9⟩,h10⟩,h11⟩:=h;exact⟨h0,h1,h2,h3,h4,h5,h6,h7,h8,h9,h10,h11⟩
def lst(j p q i:Nat):Bool:=decide (i<=j\/(j<i/\i<=j+p)\/(j+2<i/\i<=j+2+q))
theorem grid{F:Fence}{n:Nat}{ops:List Oper}{j:Nat}{Q:Exit->Act->World->Prop}(ht:Qaek ops j)(R:Nat->Nat->Act->World->Prop)
  (hA:∀ p q a w,p<2->q<=3->R p q a w->wpOpIn F n P ops.toArray Q (j+1+p) (R (p+1) q) a w)
  (hB:∀ p q a w,p<=2->q<3->R p q a w->wpOpIn F n P ops.toArray Q (j+3+q) (R p (q+1)) a w)
  (hE:∀ a w,R 2 3 a w->Q .normal a w) :
  ∀ (fuel p q:Nat) (L:Array Bool) (a:Act) (w:World),fuel=(2-p)+(3-q)->p<=2->q<=3->L.size=j+6->(∀ i,i<j+6->L.getD i true=lst j p q i)->R p q a w->wpAnyIn F n P .any ops.toArray Q fuel L a w:=by
 have hop:∀ i,i<j+6->∃ o,ops[i]? = some o:=λi hi=>⟨_,List.getElem?_eq_getElem (by rw[ht.len]; exact hi)⟩
 have hD:∀ {L:Array Bool} {i:Nat},L.size=j+6->i<j+6->L.getD i false=L.getD i true:=λ{L i} hs hi=>by
  have:i<L.size:=by omega
  simp[Array.getD_eq_getD_getElem?,this]
 have hset:∀ {L:Array Bool} {p q p' q' x:Nat},L.size=j+6->(∀ i,i<j+6->L.getD i true=lst j p q i)->x<j+6->(∀ i,lst j p' q' i=(lst j p q i||i==x))->∀ i,i<j+6->(L.setIfInBounds x true).getD i true=lst j p' q' i:=λ{L p q p' q' x} hs hL hx he i hi=>by
  rw[he];by_cases hix:i=x
  .subst hix;have:i<L.size:=by omega
   simp[Array.getD_eq_getD_getElem?,this]
  .rw[getD_set_ne true (λe=>hix e.symm),hL i hi];simp[hix]
 intro fuel
 induction fuel with
 | zero =>
  intro p q L a w hf hp hq hs hL hR;have hp2:p=2:=by omega
  have hq3:q=3:=by omega
  subst hp2; subst hq3;refine⟨?_,hE a w hR⟩;apply List.eq_nil_iff_forall_not_mem.2;intro i hi;obtain⟨h1,o,ho,-⟩:=mem_ready.1 hi;have hi6:i<j+6:=by have:=(Array.getElem?_eq_some_iff.1 ho).1; simpa [ht.len] using this
  rw[hL i hi6] at h1;simp only[lst,decide_eq_false_iff_not] at h1;omega
 | succ fuel ih =>
  intro p q L a w hf hp hq hs hL hR;have ready:∀ i,i<j+6->lst j p q i=false->(∀ k ∈ bnds ops i,lst j p q k=true/\k<j+6)->i ∈ Region.ready .any ops.toArray L:=λi hi h1 h2=>by
   obtain⟨o,ho⟩:=hop i hi;refine mem_ready.2 ⟨by rw[hL i hi]; exact h1,o,by simpa using ho,λe he hb=>?_⟩;obtain⟨h3,h4⟩:=h2 e.on ((Qtm ho).2 ⟨e,he,hb,rfl⟩);rw[hD hs h4,hL _ h4]; exact h3
  refine⟨λhr=>?_,λi hi=>?_⟩
  .exfalso;by_cases hp2:p<2
   .have:j+1+p ∈ Region.ready .any ops.toArray L:=by
     refine ready _ (by omega) (by simp[lst]; omega) λk hk=>?_
     have:k<j+1+p:=by
      rcases (by omega:p=0\/p=1) with rfl | rfl
      .exact ht.b1 k hk
      .exact ht.b2 k hk
     exact⟨by simp[lst]; omega,by omega⟩
    rw[hr] at this;cases this
   .have:j+3+q ∈ Region.ready .any ops.toArray L:=by
     refine ready _ (by omega) (by simp[lst]; omega) λk hk=>?_
     rcases (by omega:q=0\/q=1\/q=2) with rfl | rfl | rfl
     .have:=ht.b3 k hk; exact⟨by simp[lst]; omega,by omega⟩
     .have:=ht.b4 k hk; exact⟨by simp[lst]; omega,by omega⟩
     .have:=ht.b5 k hk; exact⟨by simp[lst]; omega,by omega⟩
    rw[hr] at this;cases this
  .obtain⟨h1,o,ho,hb⟩:=mem_ready.1 hi;have ho' : ops[i]? = some o:=by simpa using ho
   have hi6:i<j+6:=by have:=(List.getElem?_eq_some_iff.1 ho').1; rw[ht.len] at this; exact this
   rw[hL i hi6] at h1;have need:∀ k ∈ bnds ops i,k<j+6->lst j p q k=true:=λk hk hk6=>by
    obtain⟨e,he,hb1,rfl⟩:=(Qtm ho').1 hk;have:=hb e he hb1;rw[hD hs hk6,hL _ hk6] at this;exact this
   simp only[lst,decide_eq_false_iff_not] at h1;rcases (by omega:i=j+1+p/\p<2\/(i=j+2/\p=0)\/(i=j+3+q/\q<3)\/(i=j+4/\q=0)\/(i=j+5/\q<2)) with ⟨rfl,hp2⟩ | ⟨rfl,rfl⟩ | ⟨rfl,hq3⟩ | ⟨rfl,rfl⟩ | ⟨rfl,hq2⟩
   .refine wpOpIn_mono (λa' w' h=>ih (p+1) q _ a' w' (by omega) (by omega) hq (by simp[hs]) (hset hs hL (by omega) λi=>?_) h) (hA p q a w hp2 hq hR);rw[Bool.eq_iff_iff];simp only[lst,Bool.or_eq_true,decide_eq_true_eq,beq_iff_eq];omega
   .have:=need _ ht.c2 (by omega);simp[lst] at this;omega
   .refine wpOpIn_mono (λa' w' h=>ih p (q+1) _ a' w' (by omega) hp (by omega) (by simp[hs]) (hset hs hL (by omega) λi=>?_) h) (hB p q a w hp hq3 hR);rw[Bool.eq_iff_iff];simp only[lst,Bool.or_eq_true,decide_eq_true_eq,beq_iff_eq];omega
   .have:=need _ ht.c4 (by omega);simp[lst] at this;omega
   .have:=need _ ht.c5 (by omega);simp[lst] at this;omega
def Q6p(hvl:List Nat)(ops:List Oper)(j:Nat):Bool :=
 let an:=Qoy ops []
 (List.range j).all λi=>match ops[i]? with
  | some o=>o.after.toList.all (λe => !Region.binds .any e||decide (e.on<i))&&(List.range i).all λa=>(an.getD i []).contains a||Qp1 hvl ops a i
  | none=>true
theorem Qxz{hvl:List Nat}{ops:List Oper}{j:Nat}(h:Q6p hvl ops j=true){i:Nat}{o:Oper}(hij:i<j)(ho:ops[i]? = some o):(∀ e ∈ o.after,Region.binds .any e=true->e.on<i) /\
  ∀ a,a<i->Reach ops a i\/Qp1 hvl ops a i=true:=by
 unfold Q6p at h;rw[List.all_eq_true] at h;have:=h i (List.mem_range.2 hij);simp only[ho,Bool.and_eq_true,List.all_eq_true,Bool.or_eq_true,List.mem_range,List.contains_iff_mem] at this;obtain⟨h1,h2⟩:=this;refine⟨λe he hb=>?_,λa ha=>?_⟩
 .have:=h1 e (by simpa using he);simpa [hb] using this
 .rcases h2 a ha with h | h
  .cases hq:(Qoy ops [])[i]? with
   | none=>simp[List.getD,hq] at h
   | some l =>
    simp[List.getD,hq] at h;exact .inl (Qin ops [] [] rfl rfl (λi l a h=>by simp at h) i l a hq h)
  .exact .inr h
theorem Qu3(hT:TblOk P tb){rd:Option Nat}{base:Nat}{hvl:List Nat}{N:Nat}{ops:List Oper}{j k:Nat}(hj:j<=ops.length)(hl:Q6p hvl ops j=true)(hpost:∀ i o,j<=i->ops[i]? = some o->∀ x,x<j->Reach ops x i){Q:Exit->Act->World->Prop}{K:St->Prop}(hK:Qtj K){B:Nat×Nat}{G0:Gh}{w0:World}{ds:List Deferred}(hQ:∀ a w G σ (L:Array Bool),L.size=ops.length->(∀ i,i<j->L.getD i true=true)->(∀ i,j<=i->i<ops.length->L.getD i true=false)->Ex B G0 w0 G w->Rel N G σ a w->a.defers=ds->K σ -> wpAnyIn (FW rd) 0 P .any ops.toArray Q k L a w) :
  ∀ (fuel:Nat) (listed:Array Bool) (σ : St) (a:Act) (w:World) (G:Gh),listed.size=ops.length->Down ops listed->(∀ i,j<=i->i<ops.length->listed.getD i true=false)->((List.range j).filter λi => !listed.getD i true).length=fuel->Ex B G0 w0 G w->Rel N G σ a w->a.defers=ds->base <= σ.s.heap.length ->
   dOps base hvl P tb N ops ((List.range j).filter λi => !listed.getD i true) σ K->wpAnyIn (FW rd) 0 P .any ops.toArray Q (fuel+k) listed a w
 | 0,listed,σ,a,w,G,hs,hdn,hun,hf,hE,hR,hd,hbs,h=>by
  have hnil:=List.eq_nil_of_length_eq_zero hf;rw[hnil] at h;rw[Nat.zero_add];refine hQ a w G σ listed hs (λi hi=>?_) hun hE hR hd h;cases hg:listed.getD i true
  .exfalso;have:i ∈ (List.range j).filter λi => !listed.getD i true:=by
    rw[List.mem_filter,List.mem_range]; exact⟨hi,by rw[hg]; rfl⟩
   rw[hnil] at this;cases this
  .rfl
 | fuel+1,listed,σ,a,w,G,hs,hdn,hun,hf,hE,hR,hd,hbs,h=>by
  rw[Nat.add_right_comm];refine⟨λhr=>?_,λi hi=>?_⟩
  .exfalso;generalize hL:((List.range j).filter λi => !listed.getD i true)=L at hf;cases L with
   | nil=>simp at hf
   | cons x r =>
    have hx:x ∈ (List.range j).filter λi => !listed.getD i true:=by rw[hL]; simp
    rw[List.mem_filter,List.mem_range] at hx;obtain⟨hx1,hx2⟩:=hx;have ho:ops[x]? = some ops[x]:=List.getElem?_eq_getElem (Nat.lt_of_lt_of_le hx1 hj);have hmem:x ∈ Region.ready .any ops.toArray listed:=by
     refine mem_ready.2 ⟨by simpa using hx2,ops[x],by simp,λe he hb=>?_⟩;have hlt:=(Qxz hl hx1 ho).1 e he hb;cases hg:listed.getD e.on false
     .exfalso;have hmm:e.on ∈ (List.range j).filter λi => !listed.getD i true:=by
       rw[List.mem_filter,List.mem_range];refine⟨by omega,?_⟩;have hlt2:e.on<listed.size:=by omega
       simp only[Array.getD_eq_getD_getElem?,Array.getElem?_eq_getElem hlt2,Option.getD_some] at hg ⊢;simp[hg]
      have hsorted:((List.range j).filter λi => !listed.getD i true).Pairwise (· < ·):=List.Pairwise.filter _ List.pairwise_lt_range;rw[hL] at hmm hsorted;rcases List.mem_cons.1 hmm with h0 | h0
      .omega
      .have:=List.rel_of_pairwise_cons hsorted h0; omega
     .rfl
    rw[hr] at hmem;cases hmem
  .obtain⟨h1,o,ho,hp⟩:=mem_ready.1 hi;have ho' : ops[i]? = some o:=by simpa using ho
   have hil0:i<ops.length:=(List.getElem?_eq_some_iff.1 ho').1;have hil:i<j:=by
    cases Nat.lt_or_ge i j with
    | inl h0=>exact h0
    | inr h0 =>
     exfalso;generalize hL:((List.range j).filter λi => !listed.getD i true)=L at hf;cases L with
     | nil=>simp at hf
     | cons x r =>
      have hx:x ∈ (List.range j).filter λi => !listed.getD i true:=by rw[hL]; simp
      rw[List.mem_filter,List.mem_range] at hx;have:=hdn.reach hs (hpost i o h0 ho' x hx.1) λo2 ho2 e he hb=>by
       rw[ho'] at ho2;cases ho2;exact hp e he hb
      have hlt2:x<listed.size:=by omega
      have hx2:=hx.2;simp only[Array.getD_eq_getD_getElem?,Array.getElem?_eq_getElem hlt2,Option.getD_some] at this hx2;rw[this] at hx2; cases hx2
   have him:i ∈ (List.range j).filter λi => !listed.getD i true:=by
    rw[List.mem_filter,List.mem_range]; exact⟨hil,by rw[h1]; rfl⟩
   have hsorted:((List.range j).filter λi => !listed.getD i true).Pairwise (· < ·):=List.Pairwise.filter _ List.pairwise_lt_range;obtain⟨A,B,hAB⟩:=List.append_of_mem him;have hA:∀ x ∈ A,x<i/\listed.getD x true=false:=λx hx=>by
    refine⟨?_,?_⟩
    .rw[hAB] at hsorted;exact(List.pairwise_append.1 hsorted).2.2 x hx i (by simp)
    .have:x ∈ (List.range j).filter λi => !listed.getD i true:=by rw[hAB]; simp[hx]
     rw[List.mem_filter] at this;simpa using this.2
   rw[hAB] at h;have hfront:=Qio hK A σ hbs (λx hx=>by
    obtain⟨hx1,hx2⟩:=hA x hx;rcases (Qxz hl hil ho').2 x hx1 with hre | h0
    .have:=hdn.reach hs hre λo2 ho2 e he hb=>by
      rw[ho'] at ho2;cases ho2;exact hp e he hb
     have hlt2:x<listed.size:=by omega
     simp only[Array.getD_eq_getD_getElem?,Array.getElem?_eq_getElem hlt2,Option.getD_some] at this hx2;rw[this] at hx2; cases hx2
    .exact h0) h
   have hnew:((List.range j).filter λk => !(listed.setIfInBounds i true).getD k true)=A++B:=by
    have e1:((List.range j).filter λk => !(listed.setIfInBounds i true).getD k true)=((List.range j).filter λk => !listed.getD k true).filter λk=>k != i:=by
     rw[List.filter_filter];apply List.filter_congr;intro k hk;by_cases hki:k=i
     .subst hki;have hks:k<listed.size:=by omega
      simp[Array.getD_eq_getD_getElem?,hks]
     .rw[getD_set_ne true (λe=>hki e.symm)];simp[hki]
    rw[e1,hAB];have hnd:(A++i::B).Nodup:=by
     rw[<-hAB]; exact List.Pairwise.filter _ List.nodup_range
    rw[List.nodup_append] at hnd;obtain⟨n1,n2,n3⟩:=hnd;rw[List.nodup_cons] at n2;rw[List.filter_append,List.filter_cons];simp only[bne_self_eq_false,Bool.false_eq_true,if_false];congr 1
    .exact List.filter_eq_self.2 λx hx=>by
      have:=n3 x hx i (by simp);simpa using this
    .exact List.filter_eq_self.2 λx hx=>by
      have:x≠i:=λe=>n2.1 (e ▸ hx)
      simpa using this
   refine Qk5 hT hR hbs ((Qgl hbs (K' := λτ => base <= τ.s.heap.length/\dOps base hvl P tb N ops (A++B) τ K) (λτ h1 h2=>⟨h1,h2⟩) hfront)) λa' w' G' σ' s1 r1 d1 k1=>?_
   have hdn' : Down ops (listed.setIfInBounds i true):=λk o2 ho2 hk e he hb=>by
    refine getD_set_true ?_;by_cases hki:k=i
    .subst hki;rw[ho'] at ho2;cases ho2;exact hp e he hb
    .rw[getD_set_ne true (λe=>hki e.symm)] at hk;exact hdn k o2 ho2 hk e he hb
   refine Qu3 hT hj hl hpost hK hQ fuel _ σ' a' w' G' (by simp[hs]) hdn' (λk hk1 hk2=>by rw[getD_set_ne true (by omega)]; exact hun k hk1 hk2) ?_ (hE.trans (s1.ex _)) r1 (d1.trans hd) k1.1 ?_
   .rw[hnew];rw[hAB] at hf;simp at hf ⊢; omega
   .rw[hnew]; exact k1.2
structure Qakv (ops:List Oper) (j:Nat) (N:Nat) (o0 o1 o2 o3 o4 o5:Oper) (c:Call) (ox oy:Operand) (t1 x1 xi e x2 xv xp x3 ft f x4 t2:Nat):Prop where
 h0:ops[j]? = some o0
 h1:ops[j+1]? = some o1
 h2:ops[j+2]? = some o2
 h3:ops[j+3]? = some o3
 h4:ops[j+4]? = some o4
 h5:ops[j+5]? = some o5
 p0:o0.op = .call c
 pc:c.callee = .builtin .append
 pa:c.args = #[ox,oy]
 pt:c.argTypes = #[t1,t1]
 p1:o1.op = .indexAddr t1 (.tmp x1) (.tmp xi)
 p2:o2.op = .store e (.tmp x2) (.tmp xv)
 p3:o3.op = .nilCheck (.tmp xp)
 p4:o4.op = .fieldAddr ft (.tmp x3) f
 p5:o5.op = .store t2 (.tmp x4) (.tmp x1)
 g:[o0.guard,o1.guard,o2.guard,o3.guard,o4.guard,o5.guard]=[none,none,none,none,none,none]
 d:[o0.dst,o1.dst,o2.dst,o3.dst,o4.dst,o5.dst]=[some x1,some x2,none,some x3,some x4,none]
 hN:x1<N/\x2<N/\x3<N/\x4<N
 hnd:[x1,x2,x3,x4].Nodup/\∀ x ∈ [xi,xv,xp],x ∉ [x1,x2,x3,x4]
inductive Apv (tb:Tbl) (ops:List Oper) (j N:Nat) (σ : St):St->Prop
 | mk {o0 o1 o2 o3 o4 o5:Oper} {c:Call} {ox oy:Operand} {t1 x1 xi e x2 xv xp x3 ft f x4 t2 tk nm off:Nat} {k:IntKind} {n:Int} {es es' : List (List V)} {fl:Bool} {zs vs:List V} {dv:D} {cs ds:List D} {ti te tp tf ti2:TI} {fields:Array Field} {fd:Field}
   (ho:Qakv ops j N o0 o1 o2 o3 o4 o5 c ox oy t1 x1 xi e x2 xv xp x3 ft f x4 t2) (hf : σ.env.all (λp => !([x1,x2,x3,x4].contains p.1))=true)
   (ex:ev σ.env ox=some (.own tk e te.size es)) (ey:(ev σ.env oy).bind unp=some (.sl fl [zs])) (ei : σ.env.lookup xi=some (.p (.v (.int k n)))) (hn:n=(es.length:Int))
   (hv : σ.env.lookup xv=some dv) (hcs:Ql3 dv=some cs) (hvs:unps cs=some vs) (hp : σ.env.lookup xp=some (.ptr nm off))
   (ht:tb.lookup t1=some ti) (hd:ti.d = .slice e) (he:tb.lookup e=some te) (hz:te.zero.cells.size=te.size) (hz0:0<te.size) (hl : σ.s.live[tk]? = some es.length)
   (hzs:zs.length=te.size) (hvl:vs.length=te.size) (hby:(es.length+1)*te.bytes<=140737488355328) (hmax:es.length+1<=9223372036854775807)
   (hft:tb.lookup ft=some tp) (hfd:tp.d = .struct fields) (hff:fields[f]? = some fd) (htf:tb.lookup fd.type=some tf) (hfz:tf.size≠0)
   (ht2:tb.lookup t2=some ti2) (h2:ti2.size=1) (hds : σ.s.heap[nm]? = some ds) (hoff:off+fd.offset+1<=ds.length) (hle:LeLL (es++[vs]) es') (hem:e<1000000) (hnm:Qaby ds=true) :
   Apv tb ops j N σ ⟨σ.env,⟨σ.s.heap.set nm (ds.take (off+fd.offset)++[.own tk e te.size es']++ds.drop (off+fd.offset+1)),σ.s.live.set tk es'.length⟩⟩
theorem Qw2{rd:Option Nat}{ops:List Oper}{i:Nat}{o:Oper}{a:Act}{w w' : World}{u:Value}{next:Act->World->Prop}{Q:Exit->Act->World->Prop}(ho:ops[i]? = some o)(hg:o.guard=none)(hd:∀ c,o.op ≠ .defer c)
  (hr:(execOp a.eval o).run P w = .ok (.value u) w') (hn:next (a.put o.dst u) w'):wpOpIn (FW rd) 0 P ops.toArray Q i next a w:=by
 unfold wpOpIn;simp only[List.getElem?_toArray,ho];rw[if_pos (by simp[Region.wanted,hg])];exact Qlf hd (by rw[hr]; exact hn)
theorem Q6q{rd:Option Nat}{ops:List Oper}{i:Nat}{o:Oper}{a:Act}{w w' : World}{next:Act->World->Prop}{Q:Exit->Act->World->Prop}(ho:ops[i]? = some o)(hg:o.guard=none)(hd:∀ c,o.op ≠ .defer c)
  (hr:(execOp a.eval o).run P w = .ok .skip w') (hn:next (a.put o.dst undef) w'):wpOpIn (FW rd) 0 P ops.toArray Q i next a w:=by
 unfold wpOpIn;simp only[List.getElem?_toArray,ho];rw[if_pos (by simp[Region.wanted,hg])];exact Qlf hd (by rw[hr]; exact hn)
theorem Q1z:∀ (l:Env) {t:Nat} {d:D},l.lookup t=some d->(t,d) ∈ l
 | [],t,d,h=>by simp at h
 | (t0,d0)::r,t,d,h=>by
  rw[List.lookup_cons] at h;by_cases h1:t=t0
  .subst h1;simp only[beq_self_eq_true,Option.some.injEq] at h;subst h;simp
  .have hb:(t==t0)=false:=by simpa using h1
   rw[hb] at h;exact List.mem_cons_of_mem _ (Q1z r h)
theorem Q88(w:World){g b:Nat}(h:g≠b)(x y:Array Value):(w.setRow g x).setRow b y=(w.setRow b y).setRow g x:=by
 unfold World.setRow;congr 1;apply Array.ext_getElem?;intro i;simp only[Array.getElem?_modify];by_cases h1:b=i
 .subst h1;rw[if_pos rfl,if_neg h,if_neg h,if_pos rfl]
 .by_cases h2:g=i
  .subst h2; simp[h1]
  .simp[h1,h2]
theorem Qgr{a:Act}{d t:Nat}{u:Value}(h:t≠d):(a.put (some d) u).tmps.getD t undef=a.tmps.getD t undef:=by
 simp only[Act.put,Array.getD_eq_getD_getElem?,Array.getElem?_setIfInBounds_ne (Ne.symm h)]
theorem Qkz{a:Act}{d:Nat}{u:Value}(h:d<a.tmps.size):(a.put (some d) u).tmps.getD d undef=u:=by
 simp[Act.put,Array.getD_eq_getD_getElem?,h]
theorem Qw3(a:Act)(d:Option Nat)(u:Value):(a.put d u).tmps.size=a.tmps.size:=by
 cases d<;>simp[Act.put]
theorem Qx0(hT:TblOk P tb){t:Nat}{ti:TI}(ht:tb.lookup t=some ti){w:World}{b off:Nat}{us:Array Value}{ty:TypeId}(h1:w.heap[b]? = some (.cells us ty (0,0))){v:Value}(hsz:v.cells.size=ti.size)(hl:off+v.cells.size<=us.size)(ho:∀ x ∈ v.cells.toList,x.oneCell' = true) :
  (Instr.storeAt t (.pointer (some ⟨b,off,none⟩)) v).run P w = .ok () (w.setRow b (us.toList.take off++v.cells.toList++us.toList.drop (off+v.cells.toList.length)).toArray):=by
 have hst:=run_storeCells_at P b off ty v.cells.toList 0 us w h1 (by simp; omega) ho;simp only[Nat.add_zero] at hst;simp only[Instr.storeAt,Instr.sureAddr,storeVar,Sem.run_bind,Sem.run_pure,Result.andThen_ok,hT.sz ht,hsz];simpa using hst
set_option maxHeartbeats 2000000 in
theorem Qael(hT:TblOk P tb){rd:Option Nat}{N j:Nat}{ops:List Oper}{σ σ' : St}{G:Gh}{a:Act}{w:World}{Q:Exit->Act->World->Prop}(ht:Qaek ops j)(hv:Apv tb ops j N σ σ')(hR:Rel N G σ a w)
  (hQ:∀ a' w' G', Stp G w G' w' -> Rel N G' σ' a' w' -> a'.defers=a.defers->Q .normal a' w') (L:Array Bool) (hs:L.size=ops.length) (hL1:∀ i,i<j->L.getD i true=true) (hL2:∀ i,j<=i->i<ops.length->L.getD i true=false) :
  wpAnyIn (FW rd) 0 P .any ops.toArray Q 6 L a w:=by
 cases hv with
 | @mk o0 o1 o2 o3 o4 o5 c ox oy t1 x1 xi e x2 xv xp x3 ft f x4 t2 tk nm off k n es es' fl zs vs dv cs ds ti te tp tf ti2 fields fd ho hf ex ey ei hn hv hcs hvs hp ht1 hd he hz hz0 hl hzs hvl hby hmax hft hfd hff htf hfz ht2 h2 hds hoff hle hem hnm =>
 have hev:=Qrz hR.env;have hI:=hR.inv;have hx:=hev ox _ ex;obtain⟨dy,edy,hyu⟩:=Option.bind_eq_some_iff.1 ey;have hy:=Qfe (hev oy _ edy) hyu;have hc:=Qdz (hev (.tmp xv) _ hv) hcs;obtain⟨q1,q2⟩:=Qhm (G:=G) (w:=w) cs vs hvs;obtain⟨vv,hvv⟩:∃ vv,vv=a.eval (.tmp xv):=⟨_,rfl⟩;rw[<-hvv] at hc;obtain⟨bv,hpv,hbv⟩:∃ bv,a.eval (.tmp xp) = .pointer (some ⟨bv,off,none⟩)/\G.name[nm]? = some bv:=by
  have hpd:=hev (.tmp xp) _ hp;generalize a.eval (.tmp xp)=q at hpd;cases hpd with | ptr _ _ b hb=>exact⟨b,rfl,hb⟩
 have hiv:a.eval (.tmp xi) = .int k n:=by
  have hid:=hev (.tmp xi) _ ei;generalize a.eval (.tmp xi)=q at hid;cases hid with | p _ _ h=>cases h; rfl
 have hvsz:vv.cells.size=te.size:=by rw[hc.1,<-q1]; exact hvl
 have hvl' : vv.cells.toList.length=te.size:=by simpa using hvsz
 have hone:∀ x ∈ vv.cells.toList,x.oneCell' = true:=λx hx=>by
  obtain⟨i,hi⟩:=List.getElem?_of_mem hx;have hi2:i<cs.length:=by rw[<-q1,hvl,<-hvl']; exact(List.getElem?_eq_some_iff.1 hi).1
  exact(hc.2 i cs[i] x (List.getElem?_eq_getElem hi2) (by simpa using hi)).1
 have hvrel:∀ (i:Nat) x u,vs[i]? = some x->vv.cells.toList[i]? = some u->VRel G.com w x u:=λi x u h1 h2=>by
  obtain⟨d,e1,e2⟩:=q2 i x h1;exact Qfe (hc.2 i d u e1 (by simpa using h2)).2 e2
 obtain⟨ux,hux⟩:∃ ux,ux=a.eval ox:=⟨_,rfl⟩;obtain⟨uy,huy⟩:∃ uy,uy=a.eval oy:=⟨_,rfl⟩;rw[<-hux] at hx;rw[<-huy] at hy;cases hx with
 | own _ _ _ _ _ T x1' x2' x3' x0' x4' x5' =>
 have hlen:es.length=T.len:=by
  have:(G.tok.map (·.len))[tk]? = some T.len:=by rw[List.getElem?_map,x3']; rfl
  rw[hI.live,hl] at this;exact Option.some.inj this
 obtain⟨a0,cap,eux,hO⟩:=x5' hlen;obtain⟨a2,cap2,e2,c1,c2,-⟩:=x1'.isSlice;rw[eux] at e2 x1';cases e2;obtain⟨ya,yc,euy,d1,d2,-⟩:=hy.isSlice;rw[euy] at hy;obtain⟨olds,k1,k2,k3,k4⟩:=x1'.flat te.size x2' hz0;obtain⟨news,n1,n2,n3,n4⟩:=hy.flat te.size (λx hx=>by simp at hx; rw[hx]; exact hzs) hz0;rcases n4 with n4 | ⟨b', off', eya,n4⟩
 .simp at n4
 have ha:a0=none->cap=0:=λh0=>by
  cases x1' with
  | sl _ _ _ _ _ _ _ _ _ _ _ _ g5=>exact g5 h0
 obtain⟨own,hown,hT1,hT2⟩:∃ own:Option Nat,(cap=es.length\/∃ (b:Nat) (us:Array Value),a0=some ⟨b,0,none⟩/\own=some b/\w.heap[b]? = some (.cells us e (0,0))/\us.size=cap*te.size) /\
   (∀ g,own=some g->T.blk=some g/\T.cells=es.length*te.size/\a0=some ⟨g,0,none⟩)/\True:=by
  rcases hO with h0 | ⟨b,us,T', e1,e2,e3,e4,e5,e6⟩ | h0
  .exact⟨none,.inl (by omega),(λg hg=>by cases hg),trivial⟩
  rotate_left
  .exact⟨none,.inl h0.2,(λg hg=>by cases hg),trivial⟩
  .have e5:=e5.lt (by omega);rw[Qqz hem] at e5;rw[x3'] at e2;cases e2;exact⟨some b,.inr ⟨b,us,e1,rfl,e5,e6⟩,(λg hg=>by cases hg; exact⟨e3,e4,e1⟩),trivial⟩
 obtain⟨g,cap', w1,hr,hG⟩:=Qq1 hT w o0.type ht1 hd he hz a0 es.length cap olds k1 (k4.imp id λ⟨b,off,q1,q2⟩=>⟨b,off,q1,λj u hj=>(q2 j u hj).1⟩) ha c1 c2 own hown b' off' 1 yc news n1 (λj u hj=>(n4 j u hj).1) n3 (by omega) (by unfold maxLen; exact hmax) hby
 obtain⟨cur,r1,r2,r3⟩:=hG.row0;have hfit:es.length*te.size+te.size<=cur.size:=by
  rw[r2];have:=Nat.mul_le_mul_right te.size hG.fits;rw[Nat.add_mul,Nat.one_mul] at this;exact this
 obtain⟨curv,hcurv⟩:∃ curv:Array Value,curv=(cur.toList.take (es.length*te.size)++vv.cells.toList++cur.toList.drop (es.length*te.size+vv.cells.toList.length)).toArray:=⟨_,rfl⟩;have hcv:∀ w' : World,w'.heap[g]? = some (.cells cur e (0,0))->(Instr.storeAt e (.pointer (some ⟨g,es.length*te.size,none⟩)) vv).run P w' = .ok () (w'.setRow g curv):=λw' h1=>by
  rw[hcurv];exact Qx0 hT he h1 hvsz (by rw[hvsz]; exact hfit) hone
 have hcurvs:curv.size=cap' * te.size:=by
  rw[hcurv,<-r2];simp only[List.size_toArray,List.length_append,List.length_take,List.length_drop,Array.length_toList,hvl'];omega
 have hold:cur.toList.take (es.length*te.size)=olds:=by
  have h0:(cur.toList.take ((es.length+1)*te.size)).take (es.length*te.size)=olds:=by rw[r3,<-k1]; exact List.take_left
  rw[List.take_take,Nat.min_eq_left (Nat.mul_le_mul_right _ (by omega))] at h0;exact h0
 have hcl:(olds++vv.cells.toList).length=(es.length+1)*te.size:=by rw[List.length_append,k1,hvl', Nat.add_mul,Nat.one_mul]
 have hG2:Grown w (w1.setRow g curv) e te.size (es.length+1) (olds++vv.cells.toList) g cap' T.blk:=by
  refine⟨hG.os,hG.tape,hG.output,by simp[World.setRow]; exact hG.size_le,⟨curv,.of (setRow_heap w1 g cur curv e (0,0) r1),hcurvs,?_⟩,hG.fits,hG.max,λk hk hkg=>by rw[setRow_other _ _ _ _ hkg]; exact hG.old k hk hkg,hG.which.imp id λh0=>(hT1 g h0).1,hG.shp.trans (Qq0 r1 (by rw[hcurvs,r2]))⟩;rw[hcurv,hold,<-hcl];exact List.take_left
 have hne:T.blk=some g->own=some g:=λh0=>by
  rcases hG.which with h1 | h1
  .have:=(hI.tok tk T g x3' (.inl h0)).1; omega
  .exact h1
 obtain⟨s1,s2⟩:=Q2p (n:=es.length) (m:=1) (cells:=olds++vv.cells.toList) hI x3' hG2 x0' hlen.symm (by omega) (λh0=>(hT1 g (hne h0)).2.1) hcl (λh0 j u hj hu=>by
  have h1:=(hT1 g (hne h0)).2.2;rw[List.getElem?_append_left (by rw[k1]; exact hj)] at hu;rcases k4 with k4 | ⟨b,off,q1,q2⟩
  .rw[k4] at hj; simp at hj
  .rw[q1] at h1;cases h1;have:=(q2 j u hu).1;rw[Nat.zero_add] at this; exact this)
 have hes:(es++[vs]).length=es.length+1:=List.length_append;have hw2g:(w1.setRow g curv).heap[g]? = some (.cells curv e (0,0)):=setRow_heap w1 g cur curv e (0,0) r1;have hrow:VRel (G.grow tk g (es.length+1) te.size).com (w1.setRow g curv) (.sl false (es++[vs])) (.slice (some ⟨g,0,none⟩) (es++[vs]).length cap'):=by
  refine Qq2 g curv e (0,0) hw2g (es++[vs]) te.size cap' (λo ho =>.inr ⟨rfl,by rw[hes] at ho; exact ho⟩) false (by rw[hes]; exact hG.fits) hG.max (λh0=>by cases h0) (λx hx=>by
   rcases List.mem_append.1 hx with h0 | h0
   .exact x2' x h0
   .simp at h0; rw[h0]; exact hvl) (λi k x c hx hc=>?_)
  have hcur:∀ (j:Nat) (u:Value),(olds++vv.cells.toList)[j]? = some u->curv[j]? = some u:=λj u hj=>by
   rw[hcurv,hold];have:((olds++vv.cells.toList)++cur.toList.drop (es.length*te.size+vv.cells.toList.length))[j]? = some u:=by
    rw[List.getElem?_append_left (List.getElem?_eq_some_iff.1 hj).1]; exact hj
   simpa using this
  by_cases hi:i<es.length
  .rw[List.getElem?_append_left hi] at hx;obtain⟨u,hu,hvu⟩:=k2 i k x c hx hc;refine⟨u,hcur _ u ?_,k3 u (List.mem_of_getElem? hu),hvu.mono s1.ext.size s1.ext.com⟩;rw[List.getElem?_append_left (List.getElem?_eq_some_iff.1 hu).1]; exact hu
  .rw[List.getElem?_append_right (by omega)] at hx;have hi0:i-es.length=0:=by have:=(List.getElem?_eq_some_iff.1 hx).1; simpa using this
   rw[hi0] at hx;have hxv:vs=x:=by simpa using hx
   subst hxv;have hk:k<vv.cells.toList.length:=by rw[hvl', <-hvl]; exact(List.getElem?_eq_some_iff.1 hc).1
   have hu:vv.cells.toList[k]? = some vv.cells.toList[k]:=List.getElem?_eq_getElem hk;refine⟨_,hcur _ vv.cells.toList[k] ?_,hone _ (List.getElem_mem hk),(hvrel k c _ hc hu).mono s1.ext.size s1.ext.com⟩;have e1:i*te.size+k=olds.length+k:=by
    rw[k1]; congr 2; omega
   rw[e1,List.getElem?_append_right (by omega),Nat.add_sub_cancel_left]; exact hu
 have hset:(G.grow tk g (es.length+1) te.size).tok[tk]? = some ⟨es.length+1,some g,(es.length+1)*te.size,none⟩:=List.getElem?_set_self (List.getElem?_eq_some_iff.1 x3').1;obtain⟨U,hU⟩:∃ U:Value,U = .slice (some ⟨g,0,none⟩) (es.length+1) cap' := ⟨_,rfl⟩;have hUd:DRel (G.grow tk g (es.length+1) te.size) (w1.setRow g curv) (.own tk e te.size es') U:=by
  refine DRel.le (d :=.own tk e te.size (es++[vs])) ?_ (.own hle);rw[hes,<-hU] at hrow;refine .own tk e te.size (es++[vs]) _ _ hrow (λx hx=>?_) hset rfl (by rw[hes]; exact Nat.le_refl _) (λ_=>?_)
  .rcases List.mem_append.1 hx with h0 | h0
   .exact x2' x h0
   .simp at h0; rw[h0]; exact hvl
  .rw[hes];exact⟨_,cap', hU,.inr (.inl ⟨g,curv,_,rfl,hset,rfl,rfl,by rw[Qqz hem]; exact .of hw2g,hcurvs⟩)⟩
 have hU1:U.oneCell' = true:=by rw[hU]; rfl
 have hUc:U.cells = #[U]:=Q5g U hU1;obtain⟨us,ty,v1,v2,v3⟩:=(s2.var nm bv ds hbv hds).row hnm;have hgb:g≠bv:=λh0=>(s2.tok tk _ g hset (.inl rfl)).2.1 (h0 ▸ List.mem_of_getElem? hbv)
 have v1' : w1.heap[bv]? = some (.cells us ty (0,0)):=by rw[<-v1]; exact(setRow_other w1 g bv curv (Ne.symm hgb)).symm
 obtain⟨usv,husv⟩:∃ usv:Array Value,usv=(us.toList.take (off+fd.offset)++[U]++us.toList.drop (off+fd.offset+1)).toArray:=⟨_,rfl⟩;have hsv:∀ w' : World,w'.heap[bv]? = some (.cells us ty (0,0))->(Instr.storeAt t2 (.pointer (some ⟨bv,off+fd.offset,none⟩)) U).run P w' = .ok () (w'.setRow bv usv):=λw' h1=>by
  have:=Qx0 hT ht2 (off:=off+fd.offset) h1 (v:=U) (by rw[hUc,h2]; rfl) (by rw[hUc,v2]; exact hoff) (λx hx=>by rw[hUc] at hx; simp at hx; rw[hx]; exact hU1);rw[this,husv,hUc];rfl
 have husl:us.toList.length=ds.length:=by simpa using v2
 obtain⟨s3,s4⟩:=Q5f s2 nm bv hbv us ty v1 (ds.take (off+fd.offset)++[.own tk e te.size es']++ds.drop (off+fd.offset+1)) usv
  (by rw[husv]; simp only[List.size_toArray,List.length_append,List.length_take,List.length_drop,List.length_singleton,husl])
  (by rw[husv]; simp only[List.size_toArray,List.length_append,List.length_take,List.length_drop,List.length_singleton,husl]; omega)
  (λj c u hc hu=>by
   have hu' : (us.toList.take (off+fd.offset)++[U]++us.toList.drop (off+fd.offset+1))[j]? = some u:=by rw[husv] at hu; simpa using hu
   have ht1:(us.toList.take (off+fd.offset)).length=off+fd.offset:=by simp; omega
   have ht2:(ds.take (off+fd.offset)).length=off+fd.offset:=by simp; omega
   rw[List.append_assoc] at hu' hc;by_cases hj:j<off+fd.offset
   .rw[List.getElem?_append_left (by omega),List.getElem?_take,if_pos hj] at hu' hc;exact v3 j c u hc (by simpa using hu')
   .rw[List.getElem?_append_right (by omega),ht1] at hu';rw[List.getElem?_append_right (by omega),ht2] at hc;by_cases hj2:j-(off+fd.offset)<1
    .have h0:j-(off+fd.offset)=0:=by omega
     rw[h0] at hu' hc;simp at hu' hc;subst hu'; subst hc;exact⟨hU1,hUd⟩
    .rw[List.getElem?_append_right (by simp; omega),List.getElem?_drop] at hu' hc;refine v3 (off+fd.offset+1+(j-(off+fd.offset)-1)) c u ?_ ?_
     .simpa using hc
     .simpa using hu')
  ((w1.setRow g curv).setRow bv usv) rfl rfl rfl (by simp[World.setRow]) (setRow_heap _ bv us usv ty (0,0) v1) (λk hk=>setRow_other _ bv k usv hk)
 have hN:=hR.size;obtain⟨m1,m2,m3,m4⟩:=ho.hN;obtain⟨nd,nin⟩:=ho.hnd;have hg:=ho.g;simp only[List.cons.injEq,and_true] at hg;have hdst:=ho.d;simp only[List.cons.injEq,and_true] at hdst;simp only[List.nodup_cons,List.mem_cons,List.not_mem_nil,or_false,not_or,not_false_eq_true,List.nodup_nil,and_true] at nd;simp only[List.mem_cons,List.not_mem_nil,or_false,not_or,forall_eq_or_imp,forall_eq] at nin;have huT:=hT.und ht1;rw[hd] at huT;have hut:=hT.und hft;rw[hfd] at hut
 let W:Nat->Nat->World:=λp q=>let z:=if 2<=p then w1.setRow g curv else w1; if 3<=q then z.setRow bv usv else z
 have hWg:∀ p q,p<2->(W p q).heap[g]? = some (.cells cur e (0,0)):=λp q hp=>by
  simp only[W,show ¬ 2<=p by omega,if_false];split
  .rw[setRow_other _ _ _ _ hgb]; exact r1
  .exact r1
 have hWb:∀ p q,q<3->(W p q).heap[bv]? = some (.cells us ty (0,0)):=λp q hq=>by
  simp only[W,show ¬ 3<=q by omega,if_false];split
  .rw[setRow_other _ _ _ _ (Ne.symm hgb)]; exact v1'
  .exact v1'
 let R:Nat->Nat->Act->World->Prop:=λp q a' w' => w' = W p q/\a'.tmps.size=N/\a'.defers=a.defers/\(∀ t,t≠x1->t≠x2->t≠x3->t≠x4->a'.tmps.getD t undef=a.tmps.getD t undef)/\a'.tmps.getD x1 undef=U /\
  (1<=p->a'.tmps.getD x2 undef = .pointer (some ⟨g,es.length*te.size,none⟩))/\(1<=q->a'.tmps.getD x3 undef = .pointer (some ⟨bv,off,none⟩))/\(2<=q->a'.tmps.getD x4 undef = .pointer (some ⟨bv,off+fd.offset,none⟩))
 have hgrid:=grid (F:=FW rd) (n:=0) (P:=P) (Q:=Q) ht R ?_ ?_ ?_
 ·
  have hj6:=ht.len;have hLj:L.getD j true=false:=hL2 j (Nat.le_refl _) (by omega);have hD:∀ {i:Nat},i<ops.length->L.getD i false=L.getD i true:=λ{i} hi=>by
   have:i<L.size:=by omega
   simp[Array.getD_eq_getD_getElem?,this]
  refine⟨λhr=>?_,λi hi=>?_⟩
  .have:j ∈ Region.ready .any ops.toArray L:=by
    refine mem_ready.2 ⟨hLj,o0,by simpa using ho.h0,λe he hb=>?_⟩;have:=ht.b0 e.on ((Qtm ho.h0).2 ⟨e,he,hb,rfl⟩);rw[hD (by omega)]; exact hL1 _ this
   rw[hr] at this;cases this
  .obtain⟨y1,o,yo,yb⟩:=mem_ready.1 hi;have yo' : ops[i]? = some o:=by simpa using yo
   have hil:i<ops.length:=(List.getElem?_eq_some_iff.1 yo').1;have hij:i=j:=by
    rcases Nat.lt_trichotomy i j with h0 | h0 | h0
    .rw[hL1 i h0] at y1; cases y1
    .exact h0
    .exfalso;have:=ht.one (i-j-1) (by omega);rw[show j+1+(i-j-1)=i by omega] at this;obtain⟨e,he,hb,he2⟩:=(Qtm yo').1 this;have:=yb e he hb;rw[he2,hD (by omega),hLj] at this;cases this
   subst hij;have hrun:(execOp a.eval o0).run P w = .ok (.value U) w1:=by
    unfold execOp;simp only[ho.p0];have hr' := hr;rw[eux] at hux;rw[euy,eya] at huy;simp[resolve,ho.pc,invoke,builtin,ho.pa,ho.pt,<-hux,<-huy,hr', hU]
   refine Qw2 ho.h0 hg.1 (λc' h0=>by rw[ho.p0] at h0; cases h0) hrun ?_;refine hgrid 5 0 0 _ _ _ rfl (by omega) (by omega) (by simp[hs,hj6]) (λk hk=>?_) ⟨?_,?_,?_,?_,?_,λh=>by omega,λh=>by omega,λh=>by omega⟩
   .by_cases hki:k=i
    .subst hki;have:k<L.size:=by omega
     simp[Array.getD_eq_getD_getElem?,this,lst]
    .rw[getD_set_ne true (λe=>hki e.symm)];by_cases h0:k<i
     .rw[hL1 k h0]; simp[lst]; omega
     .rw[hL2 k (by omega) (by omega)]; simp[lst]; omega
   .rfl
   .rw[Qw3]; exact hN
   .rw[hdst.1]; exact Qct _ _ _
   .intro t h1 h2 h3 h4;rw[hdst.1]; exact Qgr h1
   .rw[hdst.1]; exact Qkz (by omega)
 ·
  rintro p q a' w' hp hq ⟨rfl,f1,f2,f3,f4,f5,f6,f7⟩;rcases (by omega:p=0\/p=1) with rfl | rfl
  .have hrun:(execOp a'.eval o1).run P (W 0 q) = .ok (.value (.pointer (some ⟨g,es.length*te.size,none⟩))) (W 0 q):=by
    unfold execOp;simp only[ho.p1];have e1:a'.eval (.tmp x1)=U:=f4;have e2:a'.eval (.tmp xi) = .int k n:=by
     rw[<-hiv]; exact f3 xi nin.1.1 nin.1.2.1 nin.1.2.2.1 nin.1.2.2.2
    rw[e1,e2,hU];have h0:(0:Int)<=es.length:=by omega
    have h1:(es.length:Int)<((es.length+1:Nat):Int):=by omega
    subst hn;simp[Instr.indexAt,run_underlying huT,asIntOf,hT.sz he,Qrj]
   refine Qw2 ho.h1 hg.2.1 (λc' h0=>by rw[ho.p1] at h0; cases h0) hrun ⟨rfl,?_,?_,?_,?_,λ_=>?_,λh=>?_,λh=>?_⟩
   .rw[Qw3]; exact f1
   .rw[Qct]; exact f2
   .intro t h1 h2 h3 h4;rw[hdst.2.1,Qgr h2]; exact f3 t h1 h2 h3 h4
   .rw[hdst.2.1,Qgr nd.1.1]; exact f4
   .rw[hdst.2.1]; exact Qkz (by omega)
   .rw[hdst.2.1,Qgr (Ne.symm nd.2.1.1)]; exact f6 h
   .rw[hdst.2.1,Qgr (Ne.symm nd.2.1.2)]; exact f7 h
  .have hrun:(execOp a'.eval o2).run P (W 1 q) = .ok .skip ((W 1 q).setRow g curv):=by
    unfold execOp;simp only[ho.p2];have e1:a'.eval (.tmp x2) = .pointer (some ⟨g,es.length*te.size,none⟩):=f5 (by omega);have e2:a'.eval (.tmp xv)=vv:=by
     rw[hvv]; exact f3 xv nin.2.1.1 nin.2.1.2.1 nin.2.1.2.2.1 nin.2.1.2.2.2
    rw[e1,e2];simp[hcv (W 1 q) (hWg 1 q (by omega))]
   have hw' : (W 1 q).setRow g curv=W 2 q:=by
    simp only[W,show ¬ 2<=1 by omega,if_false,Nat.le_refl,if_true];split
    .exact Q88 w1 (Ne.symm hgb) usv curv
    .rfl
   rw[hw'] at hrun;refine Q6q ho.h2 hg.2.2.1 (λc' h0=>by rw[ho.p2] at h0; cases h0) hrun ?_;rw[hdst.2.2.1];exact⟨rfl,f1,f2,f3,f4,λ_=>f5 (by omega),f6,f7⟩
 ·
  rintro p q a' w' hp hq ⟨rfl,f1,f2,f3,f4,f5,f6,f7⟩;rcases (by omega:q=0\/q=1\/q=2) with rfl | rfl | rfl
  .have hrun:(execOp a'.eval o3).run P (W p 0) = .ok (.value (.pointer (some ⟨bv,off,none⟩))) (W p 0):=by
    unfold execOp;simp only[ho.p3];have e1:a'.eval (.tmp xp) = .pointer (some ⟨bv,off,none⟩):=by
     rw[<-hpv]; exact f3 xp nin.2.2.1 nin.2.2.2.1 nin.2.2.2.2.1 nin.2.2.2.2.2
    rw[e1];rfl
   refine Qw2 ho.h3 hg.2.2.2.1 (λc' h0=>by rw[ho.p3] at h0; cases h0) hrun ⟨rfl,?_,?_,?_,?_,λh=>?_,λ_=>?_,λh=>by omega⟩
   .rw[Qw3]; exact f1
   .rw[Qct]; exact f2
   .intro t h1 h2 h3 h4;rw[hdst.2.2.2.1,Qgr h3]; exact f3 t h1 h2 h3 h4
   .rw[hdst.2.2.2.1,Qgr nd.1.2.1]; exact f4
   .rw[hdst.2.2.2.1,Qgr nd.2.1.1]; exact f5 h
   .rw[hdst.2.2.2.1]; exact Qkz (by omega)
  .have hrun:(execOp a'.eval o4).run P (W p 1) = .ok (.value (.pointer (some ⟨bv,off+fd.offset,none⟩))) (W p 1):=by
    unfold execOp;simp only[ho.p4];have e1:a'.eval (.tmp x3) = .pointer (some ⟨bv,off,none⟩):=f6 (by omega);rw[e1];simp[Instr.fieldAt,run_underlying hut,hff,Instr.sureAddr,fieldPlace,hT.sz htf,hfz,Qrj]
   refine Qw2 ho.h4 hg.2.2.2.2.1 (λc' h0=>by rw[ho.p4] at h0; cases h0) hrun ⟨rfl,?_,?_,?_,?_,λh=>?_,λh=>?_,λ_=>?_⟩
   .rw[Qw3]; exact f1
   .rw[Qct]; exact f2
   .intro t h1 h2 h3 h4;rw[hdst.2.2.2.2.1,Qgr h4]; exact f3 t h1 h2 h3 h4
   .rw[hdst.2.2.2.2.1,Qgr nd.1.2.2]; exact f4
   .rw[hdst.2.2.2.2.1,Qgr nd.2.1.2]; exact f5 h
   .rw[hdst.2.2.2.2.1,Qgr nd.2.2]; exact f6 (by omega)
   .rw[hdst.2.2.2.2.1]; exact Qkz (by omega)
  .have hrun:(execOp a'.eval o5).run P (W p 2) = .ok .skip ((W p 2).setRow bv usv):=by
    unfold execOp;simp only[ho.p5];have e1:a'.eval (.tmp x4) = .pointer (some ⟨bv,off+fd.offset,none⟩):=f7 (by omega);have e2:a'.eval (.tmp x1)=U:=f4;rw[e1,e2];simp[hsv (W p 2) (hWb p 2 (by omega))]
   refine Q6q ho.h5 hg.2.2.2.2.2 (λc' h0=>by rw[ho.p5] at h0; cases h0) hrun ?_;rw[hdst.2.2.2.2.2];refine⟨?_,f1,f2,f3,f4,f5,λ_=>f6 (by omega),λ_=>f7 (by omega)⟩;simp[W]
 .rintro a' w' ⟨rfl,f1,f2,f3,f4,f5,f6,f7⟩;have hW:W 2 3=(w1.setRow g curv).setRow bv usv:=by simp[W]
  rw[hW];refine hQ _ _ _ (s1.trans s3) ⟨?_,λt d hd=>?_,f1⟩ f2
  .have:es'.length=es.length+1:=by rw[<-hle.1,hes]
   rw[this];exact s4
  .obtain⟨b1,b2⟩:=hR.env t d hd;have hm:(t,d) ∈ σ.env:=Q1z _ hd;have hnot:=List.all_eq_true.1 hf (t,d) hm;simp only[List.contains_eq_mem,List.mem_cons,List.not_mem_nil,or_false,Bool.not_eq_true', decide_eq_false_iff_not,not_or] at hnot;rw[f3 t hnot.1 hnot.2.1 hnot.2.2.1 hnot.2.2.2];exact⟨by rw[f1,<-hN]; exact b1,(b2.mono s1).mono s3⟩
end
section
variable {P:Program} {tb:Tbl}
def Q6r(p q:Nat)(hvl:List Nat)(ops:List Oper):Bool :=
 let an:=Qoy ops []
 (List.range ops.length).all λi=>match ops[i]? with
  | some o=>o.after.toList.all (λe => !Region.binds .any e||decide (e.on<i))&&(List.range i).all λa=>(a==p&&i==q)||(an.getD i []).contains a||Qp1 hvl ops a i
  | none=>true
theorem Qoa{p q:Nat}{hvl:List Nat}{ops:List Oper}(h:Q6r p q hvl ops=true){i:Nat}{o:Oper}(ho:ops[i]? = some o):(∀ e ∈ o.after,Region.binds .any e=true->e.on<i) /\
  ∀ a,a<i->(a=p/\i=q)\/Reach ops a i\/Qp1 hvl ops a i=true:=by
 unfold Q6r at h;rw[List.all_eq_true] at h;have:=h i (List.mem_range.2 (List.getElem?_eq_some_iff.1 ho).1);simp only[ho,Bool.and_eq_true,List.all_eq_true,Bool.or_eq_true,List.mem_range,List.contains_iff_mem,beq_iff_eq] at this;obtain⟨h1,h2⟩:=this;refine⟨λe he hb=>?_,λa ha=>?_⟩
 .have:=h1 e (by simpa using he);simpa [hb] using this
 .rcases h2 a ha with (h | h) | h
  .exact .inl h
  .cases hq:(Qoy ops [])[i]? with
   | none=>simp[List.getD,hq] at h
   | some l =>
    simp[List.getD,hq] at h;exact .inr (.inl (Qin ops [] [] rfl rfl (λi l a h=>by simp at h) i l a hq h))
  .exact .inr (.inr h)
def Qaem(p:Nat)(ops:List Oper):Bool :=
 let an:=Qoy ops []
 (List.range (ops.length-(p+2))).all λk=>(an.getD (k+(p+2)) []).contains p
theorem Q89{p:Nat}{ops:List Oper}(h:Qaem p ops=true):∀ x,p+2<=x->x<ops.length->Reach ops p x:=λx h1 h2=>by
 unfold Qaem at h;rw[List.all_eq_true] at h;have:=h (x-(p+2)) (List.mem_range.2 (by omega));rw[show x-(p+2)+(p+2)=x by omega,List.contains_iff_mem] at this;cases hq:(Qoy ops [])[x]? with
 | none=>simp[List.getD,hq] at this
 | some l =>
  simp[List.getD,hq] at this;exact Qin ops [] [] rfl rfl (λi l a h=>by simp at h) x l p hq this
theorem Q3b{base:Nat}{hvl:List Nat}{N:Nat}{ops:List Oper}{K:St->Prop}:∀ {A B:List Nat} {σ : St},dOps base hvl P tb N ops (A++B) σ K↔dOps base hvl P tb N ops A σ (λτ => dOps base hvl P tb N ops B τ K)
 | [],_,_=>Iff.rfl
 | a::A,B,σ => by
  show dOne base hvl P tb N ops a σ (λτ => dOps base hvl P tb N ops (A++B) τ K)↔dOne base hvl P tb N ops a σ (λτ => dOps base hvl P tb N ops A τ λτ => dOps base hvl P tb N ops B τ K);have:(λτ => dOps base hvl P tb N ops (A++B) τ K)=(λτ => dOps base hvl P tb N ops A τ λτ => dOps base hvl P tb N ops B τ K):=funext λτ => propext Q3b
  rw[this]
theorem Qx1{base:Nat}{hvl:List Nat}{N:Nat}{ops:List Oper}{K K' : St->Prop}:∀ {A:List Nat} {σ : St},base <= σ.s.heap.length->(∀ τ,base <= τ.s.heap.length->K τ -> K' τ)->dOps base hvl P tb N ops A σ K->dOps base hvl P tb N ops A σ K'
 | [],σ,hb,hk,h=>hk σ hb h
 | a::A,σ,hb,hk,h=>Qgl hb (λτ h1 h2=>Qx1 h1 hk h2) h
theorem Q6s(listed:Array Bool):∀ n:Nat,(∃ x,x<n/\listed.getD x true=false)->∃ x,x<n/\listed.getD x true=false/\∀ y,y<x->listed.getD y true=true
 | 0,⟨x,h,_⟩=>by omega
 | n+1,⟨x,h1,h2⟩=>by
  by_cases h:∃ x,x<n/\listed.getD x true=false
  .obtain⟨y,h3,h4,h5⟩:=Q6s listed n h;exact⟨y,by omega,h4,h5⟩
  .have hall:∀ y,y<n->listed.getD y true=true:=λy hy=>by
    cases hq:listed.getD y true with
    | true=>rfl
    | false=>exact(h ⟨y,hy,hq⟩).elim
   have hxn:x=n:=by
    by_cases hx:x<n
    .rw[hall x hx] at h2; cases h2
    .omega
   subst hxn;exact⟨x,by omega,h2,hall⟩
theorem Qai1{n:Nat}{listed:Array Bool}{i:Nat}(hs:listed.size=n)(hi:i<n){ord A B:List Nat}(hnd:ord.Nodup)(h:(ord.filter λi => !listed.getD i true)=A++i::B):(ord.filter λk => !(listed.setIfInBounds i true).getD k true)=A++B:=by
 have e1:(ord.filter λk => !(listed.setIfInBounds i true).getD k true)=(ord.filter λk => !listed.getD k true).filter λk=>k != i:=by
  rw[List.filter_filter];apply List.filter_congr;intro k hk;by_cases hki:k=i
  .subst hki;have hks:k<listed.size:=by omega
   simp[Array.getD_eq_getD_getElem?,hks]
  .rw[getD_set_ne true (λe=>hki e.symm)];simp[hki]
 rw[e1,h];have hnd:(A++i::B).Nodup:=by
  rw[<-h]; exact List.Pairwise.filter _ hnd
 rw[List.nodup_append] at hnd;obtain⟨n1,n2,n3⟩:=hnd;rw[List.nodup_cons] at n2;rw[List.filter_append,List.filter_cons];simp only[bne_self_eq_false,Bool.false_eq_true,if_false];congr 1
 .exact List.filter_eq_self.2 λx hx=>by
   have:=n3 x hx i (by simp);simpa using this
 .exact List.filter_eq_self.2 λx hx=>by
   have:x≠i:=λe=>n2.1 (e ▸ hx)
   simpa using this
theorem Qx2{n p:Nat}(h:p+2<=n):List.range n=List.range p++(p::(p+1)::(List.range (n-(p+2))).map (· + (p+2))):=by
 apply List.ext_getElem?;intro k;by_cases h1:k<p
 .rw[List.getElem?_append_left (by simpa using h1),List.getElem?_range h1,List.getElem?_range (by omega)]
 .rw[List.getElem?_append_right (by simpa using h1),List.length_range];rcases (by omega:k=p\/k=p+1\/p+2<=k) with rfl | rfl | h2
  .rw[List.getElem?_range (by omega)]; simp
  .rw[List.getElem?_range (by omega),show p+1-p=1 by omega]; rfl
  .obtain⟨m,rfl⟩:∃ m,k=m+(p+2):=⟨k-(p+2),by omega⟩;rw[show m+(p+2)-p=m+1+1 by omega,List.getElem?_cons_succ,List.getElem?_cons_succ,List.getElem?_map];by_cases h3:m+(p+2)<n
   .rw[List.getElem?_range h3,List.getElem?_range (by omega)]; rfl
   .rw[List.getElem?_eq_none (by simpa using h3),List.getElem?_eq_none (by simp; omega)]; rfl
def both(base:Nat)(hvl:List Nat)(P:Program)(tb:Tbl)(N:Nat)(ops:List Oper)(p:Nat)(K:St->Prop)(σ : St):Prop :=
 base <= σ.s.heap.length/\dOps base hvl P tb N ops (p::(p+1)::(List.range (ops.length-(p+2))).map (· + (p+2))) σ K/\dOps base hvl P tb N ops ((p+1)::p::(List.range (ops.length-(p+2))).map (· + (p+2))) σ K
theorem Q9a{base:Nat}{hvl:List Nat}{N:Nat}{ops:List Oper}{p:Nat}{K:St->Prop}(hK:Qtj K):Qtj (both base hvl P tb N ops p K):=λσ τ he ⟨h0,h1,h2⟩ =>
 ⟨by rw[<-he.2]; exact h0,Qw1 hK _ σ τ h0 he h1,Qw1 hK _ σ τ h0 he h2⟩
theorem Qx3(hT:TblOk P tb){rd:Option Nat}{base:Nat}{hvl:List Nat}{N:Nat}{ops:List Oper}{p q:Nat}(hl:Q6r p q hvl ops=true){Q:Exit->Act->World->Prop}{K:St->Prop}(hK:Qtj K){B:Nat×Nat}{G0:Gh}{w0:World}{ds:List Deferred}(hQ:∀ a w G σ,Ex B G0 w0 G w->Rel N G σ a w->a.defers=ds->K σ -> Q .normal a w) :
  ∀ (fuel:Nat) (listed:Array Bool) (σ : St) (a:Act) (w:World) (G:Gh),listed.size=ops.length->Down ops listed->(listed.getD p false=true\/listed.getD q false=true)->((List.range ops.length).filter λi => !listed.getD i true).length=fuel->Ex B G0 w0 G w->Rel N G σ a w->a.defers=ds->base <= σ.s.heap.length ->
   dOps base hvl P tb N ops ((List.range ops.length).filter λi => !listed.getD i true) σ K->wpAnyIn (FW rd) 0 P .any ops.toArray Q fuel listed a w
 | 0,listed,σ,a,w,G,hs,hdn,hpq,hf,hE,hR,hd,hbs,h=>by
  have hnil:=List.eq_nil_of_length_eq_zero hf;rw[hnil] at h;refine⟨?_,hQ a w G σ hE hR hd h⟩;apply List.eq_nil_iff_forall_not_mem.2;intro i hi;obtain⟨h1,o,ho,-⟩:=mem_ready.1 hi;have:i ∈ (List.range ops.length).filter λi => !listed.getD i true:=by
   rw[List.mem_filter,List.mem_range];exact⟨by have:=(Array.getElem?_eq_some_iff.1 ho).1; simpa using this,by rw[h1]; rfl⟩
  rw[hnil] at this;cases this
 | fuel+1,listed,σ,a,w,G,hs,hdn,hpq,hf,hE,hR,hd,hbs,h=>by
  refine⟨λhr=>?_,λi hi=>?_⟩
  .exfalso;generalize hL:((List.range ops.length).filter λi => !listed.getD i true)=L at hf;cases L with
   | nil=>simp at hf
   | cons x r =>
    have hx:x ∈ (List.range ops.length).filter λi => !listed.getD i true:=by rw[hL]; simp
    rw[List.mem_filter,List.mem_range] at hx;obtain⟨hx1,hx2⟩:=hx;have ho:ops[x]? = some ops[x]:=List.getElem?_eq_getElem hx1;have hmem:x ∈ Region.ready .any ops.toArray listed:=by
     refine mem_ready.2 ⟨by simpa using hx2,ops[x],by simp,λe he hb=>?_⟩;have hlt:=(Qoa hl ho).1 e he hb;cases hg:listed.getD e.on false
     .exfalso;have hmm:e.on ∈ (List.range ops.length).filter λi => !listed.getD i true:=by
       rw[List.mem_filter,List.mem_range];refine⟨by omega,?_⟩;have hlt2:e.on<listed.size:=by omega
       simp only[Array.getD_eq_getD_getElem?,Array.getElem?_eq_getElem hlt2,Option.getD_some] at hg ⊢;simp[hg]
      have hsorted:((List.range ops.length).filter λi => !listed.getD i true).Pairwise (· < ·):=List.Pairwise.filter _ List.pairwise_lt_range;rw[hL] at hmm hsorted;rcases List.mem_cons.1 hmm with h0 | h0
      .omega
      .have:=List.rel_of_pairwise_cons hsorted h0; omega
     .rfl
    rw[hr] at hmem;cases hmem
  .obtain⟨h1,o,ho,hp⟩:=mem_ready.1 hi;have ho' : ops[i]? = some o:=by simpa using ho
   have hil:i<ops.length:=(List.getElem?_eq_some_iff.1 ho').1;have him:i ∈ (List.range ops.length).filter λi => !listed.getD i true:=by
    rw[List.mem_filter,List.mem_range]; exact⟨hil,by rw[h1]; rfl⟩
   have hsorted:((List.range ops.length).filter λi => !listed.getD i true).Pairwise (· < ·):=List.Pairwise.filter _ List.pairwise_lt_range;obtain⟨A,B,hAB⟩:=List.append_of_mem him;have hA:∀ x ∈ A,x<i/\listed.getD x true=false:=λx hx=>by
    refine⟨?_,?_⟩
    .rw[hAB] at hsorted;exact(List.pairwise_append.1 hsorted).2.2 x hx i (by simp)
    .have:x ∈ (List.range ops.length).filter λi => !listed.getD i true:=by rw[hAB]; simp[hx]
     rw[List.mem_filter] at this;simpa using this.2
   rw[hAB] at h;have hfront:=Qio hK A σ hbs (λx hx=>by
    obtain⟨hx1,hx2⟩:=hA x hx;rcases (Qoa hl ho').2 x hx1 with ⟨rfl,rfl⟩ | hre | h0
    .exfalso;have hlt2:x<listed.size:=by omega
     have hlt3:i<listed.size:=by omega
     simp only[Array.getD_eq_getD_getElem?,Array.getElem?_eq_getElem hlt2,Array.getElem?_eq_getElem hlt3,Option.getD_some] at hx2 h1 hpq;rcases hpq with h0 | h0
     .rw[hx2] at h0; cases h0
     .rw[h1] at h0; cases h0
    .have:=hdn.reach hs hre λo2 ho2 e he hb=>by
      rw[ho'] at ho2;cases ho2;exact hp e he hb
     have hlt2:x<listed.size:=by omega
     simp only[Array.getD_eq_getD_getElem?,Array.getElem?_eq_getElem hlt2,Option.getD_some] at this hx2;rw[this] at hx2; cases hx2
    .exact h0) h
   have hnew:((List.range ops.length).filter λk => !(listed.setIfInBounds i true).getD k true)=A++B:=by
    have e1:((List.range ops.length).filter λk => !(listed.setIfInBounds i true).getD k true)=((List.range ops.length).filter λk => !listed.getD k true).filter λk=>k != i:=by
     rw[List.filter_filter];apply List.filter_congr;intro k hk;by_cases hki:k=i
     .subst hki;have hks:k<listed.size:=by omega
      simp[Array.getD_eq_getD_getElem?,hks]
     .rw[getD_set_ne true (λe=>hki e.symm)];simp[hki]
    rw[e1,hAB];have hnd:(A++i::B).Nodup:=by
     rw[<-hAB]; exact List.Pairwise.filter _ List.nodup_range
    rw[List.nodup_append] at hnd;obtain⟨n1,n2,n3⟩:=hnd;rw[List.nodup_cons] at n2;rw[List.filter_append,List.filter_cons];simp only[bne_self_eq_false,Bool.false_eq_true,if_false];congr 1
    .exact List.filter_eq_self.2 λx hx=>by
      have:=n3 x hx i (by simp);simpa using this
    .exact List.filter_eq_self.2 λx hx=>by
      have:x≠i:=λe=>n2.1 (e ▸ hx)
      simpa using this
   refine Qk5 hT hR hbs ((Qgl hbs (K' := λτ => base <= τ.s.heap.length/\dOps base hvl P tb N ops (A++B) τ K) (λτ h1 h2=>⟨h1,h2⟩) hfront)) λa' w' G' σ' s1 r1 d1 k1=>?_
   have hdn' : Down ops (listed.setIfInBounds i true):=λk o2 ho2 hk e he hb=>by
    refine getD_set_true ?_;by_cases hki:k=i
    .subst hki;rw[ho'] at ho2;cases ho2;exact hp e he hb
    .rw[getD_set_ne true (λe=>hki e.symm)] at hk;exact hdn k o2 ho2 hk e he hb
   refine Qx3 hT hl hK hQ fuel _ σ' a' w' G' (by simp[hs]) hdn' (hpq.imp getD_set_true getD_set_true) ?_ (hE.trans (s1.ex _)) r1 (d1.trans hd) k1.1 ?_
   .rw[hnew];rw[hAB] at hf;simp at hf ⊢; omega
   .rw[hnew]; exact k1.2
theorem Q10(hT:TblOk P tb){rd:Option Nat}{base:Nat}{hvl:List Nat}{N:Nat}{ops:List Oper}{p:Nat}(hl:Q6r p (p+1) hvl ops=true)(hpn:p+1<ops.length)(hRe:∀ x,p+2<=x->x<ops.length->Reach ops p x){Q:Exit->Act->World->Prop}{K:St->Prop}(hK:Qtj K){B:Nat×Nat}{G0:Gh}{w0:World}{ds:List Deferred}(hQ:∀ a w G σ,Ex B G0 w0 G w->Rel N G σ a w->a.defers=ds->K σ -> Q .normal a w) :
  ∀ (fuel:Nat) (listed:Array Bool) (σ : St) (a:Act) (w:World) (G:Gh),listed.size=ops.length->Down ops listed->(∀ x,p<=x->x<ops.length->listed.getD x true=false)->((List.range p).filter λi => !listed.getD i true).length+(ops.length-p)=fuel->Ex B G0 w0 G w->Rel N G σ a w->a.defers=ds->base <= σ.s.heap.length ->
   dOps base hvl P tb N ops ((List.range p).filter λi => !listed.getD i true) σ (both base hvl P tb N ops p K)->wpAnyIn (FW rd) 0 P .any ops.toArray Q fuel listed a w
 | 0,listed,σ,a,w,G,hs,hdn,hun,hf,hE,hR,hd,hbs,h=>by omega
 | fuel+1,listed,σ,a,w,G,hs,hdn,hun,hf,hE,hR,hd,hbs,h=>by
  refine⟨λhr=>?_,λi hi=>?_⟩
  .exfalso;obtain⟨x,hx1,hx2,hx3⟩:=Q6s listed ops.length ⟨p,by omega,hun p (Nat.le_refl _) (by omega)⟩;have ho:ops[x]? = some ops[x]:=List.getElem?_eq_getElem hx1;have hmem:x ∈ Region.ready .any ops.toArray listed:=by
    refine mem_ready.2 ⟨hx2,ops[x],by simp,λe he hb=>?_⟩;have hlt:=(Qoa hl ho).1 e he hb;have h3:=hx3 e.on hlt;have hlt2:e.on<listed.size:=by omega
    simp only[Array.getD_eq_getD_getElem?,Array.getElem?_eq_getElem hlt2,Option.getD_some] at h3 ⊢;exact h3
   rw[hr] at hmem;cases hmem
  .obtain⟨h1,o,ho,hp⟩:=mem_ready.1 hi;have ho' : ops[i]? = some o:=by simpa using ho
   have hil:i<ops.length:=(List.getElem?_eq_some_iff.1 ho').1;have hdn' : Down ops (listed.setIfInBounds i true):=λk o2 ho2 hk e he hb=>by
    refine getD_set_true ?_;by_cases hki:k=i
    .subst hki;rw[ho'] at ho2;cases ho2;exact hp e he hb
    .rw[getD_set_ne true (λe=>hki e.symm)] at hk;exact hdn k o2 ho2 hk e he hb
   have ind:∀ x,x<i->listed.getD x true=false->(x=p->i=p+1->False)->Qp1 hvl ops x i=true:=λx hx1 hx2 hne=>by
    rcases (Qoa hl ho').2 x hx1 with ⟨h0,h2⟩ | hre | h0
    .exact(hne h0 h2).elim
    .have:=hdn.reach hs hre λo2 ho2 e he hb=>by
      rw[ho'] at ho2;cases ho2;exact hp e he hb
     have hlt2:x<listed.size:=by omega
     simp only[Array.getD_eq_getD_getElem?,Array.getElem?_eq_getElem hlt2,Option.getD_some] at this hx2;rw[this] at hx2; cases hx2
    .exact h0
   have hset:∀ x,x≠i->(listed.setIfInBounds i true).getD x true=listed.getD x true:=λx hx=>getD_set_ne true (λe=>hx e.symm)
   have hsetF:(listed.setIfInBounds i true).getD i false=true:=by
    have:i<listed.size:=by omega
    simp[Array.getD_eq_getD_getElem?,this]
   have hsetT:(listed.setIfInBounds i true).getD i true=true:=by
    have:i<listed.size:=by omega
    simp[Array.getD_eq_getD_getElem?,this]
   rcases (by omega:i<p\/i=p\/i=p+1\/p+2<=i) with hip | rfl | rfl | hip
   ·
    have him:i ∈ (List.range p).filter λi => !listed.getD i true:=by
     rw[List.mem_filter,List.mem_range]; exact⟨hip,by rw[h1]; rfl⟩
    have hsorted:((List.range p).filter λi => !listed.getD i true).Pairwise (· < ·):=List.Pairwise.filter _ List.pairwise_lt_range;obtain⟨A,B,hAB⟩:=List.append_of_mem him;have hA:∀ x ∈ A,x<i/\listed.getD x true=false:=λx hx=>by
     refine⟨?_,?_⟩
     .rw[hAB] at hsorted;exact(List.pairwise_append.1 hsorted).2.2 x hx i (by simp)
     .have:x ∈ (List.range p).filter λi => !listed.getD i true:=by rw[hAB]; simp[hx]
      rw[List.mem_filter] at this;simpa using this.2
    rw[hAB] at h;have hfront:=Qio (Q9a hK) A σ hbs (λx hx=>ind x (hA x hx).1 (hA x hx).2 λe _=>by have:=(hA x hx).1; omega) h;have hnew:((List.range p).filter λk => !(listed.setIfInBounds i true).getD k true)=A++B:=Qai1 hs hil List.nodup_range hAB;refine Qk5 hT hR hbs ((Qgl hbs (K' := λτ => base <= τ.s.heap.length/\dOps base hvl P tb N ops (A++B) τ (both base hvl P tb N ops p K)) (λτ h1 h2=>⟨h1,h2⟩) hfront)) λa' w' G' σ' s1 r1 d1 k1=>?_
    refine Q10 hT hl hpn hRe hK hQ fuel _ σ' a' w' G' (by simp[hs]) hdn' (λx hx1 hx2=>by rw[hset x (by omega)]; exact hun x hx1 hx2) ?_ (hE.trans (s1.ex _)) r1 (d1.trans hd) k1.1 ?_
    .rw[hnew];rw[hAB] at hf;simp at hf ⊢; omega
    .rw[hnew]; exact k1.2
   ·
    have h' : dOps base hvl P tb N ops (((List.range i).filter λk => !listed.getD k true)++i::((i+1)::(List.range (ops.length-(i+2))).map (· + (i+2)))) σ K:=Q3b.2 (Qx1 hbs (λτ _ hτ => hτ.2.1) h);have hfront:=Qio hK _ σ hbs (λx hx=>by
     rw[List.mem_filter,List.mem_range] at hx;exact ind x hx.1 (by simpa using hx.2) λe=>by have:=hx.1; omega) h'
    have hnew:((List.range ops.length).filter λk => !(listed.setIfInBounds i true).getD k true)=((List.range i).filter λk => !listed.getD k true)++((i+1)::(List.range (ops.length-(i+2))).map (· + (i+2))):=by
     rw[Qx2 (show i+2<=ops.length by omega),List.filter_append,List.filter_cons,List.filter_cons];rw[if_neg (by rw[hsetT]; simp),if_pos (by rw[hset _ (by omega),hun _ (by omega) (by omega)]; rfl)];congr 1
     .exact List.filter_congr λk hk=>by rw[hset k (by have:=List.mem_range.1 hk; omega)]
     .congr 1;refine List.filter_eq_self.2 λk hk=>?_
      obtain⟨y,hy,rfl⟩:=List.mem_map.1 hk;have:=List.mem_range.1 hy;rw[hset _ (by omega),hun _ (by omega) (by omega)]; rfl
    refine Qk5 hT hR hbs ((Qgl hbs (K' := λτ => base <= τ.s.heap.length/\dOps base hvl P tb N ops _ τ K) (λτ h1 h2=>⟨h1,h2⟩) hfront)) λa' w' G' σ' s1 r1 d1 k1=>?_
    refine Qx3 hT hl hK hQ fuel _ σ' a' w' G' (by simp[hs]) hdn' (.inl hsetF) ?_ (hE.trans (s1.ex _)) r1 (d1.trans hd) k1.1 ?_
    .rw[hnew];simp at hf ⊢; omega
    .rw[hnew]; exact k1.2
   ·
    have h' : dOps base hvl P tb N ops (((List.range p).filter λk => !listed.getD k true)++(p+1)::(p::(List.range (ops.length-(p+2))).map (· + (p+2)))) σ K:=Q3b.2 (Qx1 hbs (λτ _ hτ => hτ.2.2) h);have hfront:=Qio hK _ σ hbs (λx hx=>by
     rw[List.mem_filter,List.mem_range] at hx;exact ind x (by have:=hx.1; omega) (by simpa using hx.2) λe=>by have:=hx.1; omega) h'
    have hnew:((List.range ops.length).filter λk => !(listed.setIfInBounds (p+1) true).getD k true)=((List.range p).filter λk => !listed.getD k true)++(p::(List.range (ops.length-(p+2))).map (· + (p+2))):=by
     rw[Qx2 (show p+2<=ops.length by omega),List.filter_append,List.filter_cons,List.filter_cons];rw[if_pos (by rw[hset _ (by omega),hun _ (by omega) (by omega)]; rfl),if_neg (by rw[hsetT]; simp)];congr 1
     .exact List.filter_congr λk hk=>by rw[hset k (by have:=List.mem_range.1 hk; omega)]
     .congr 1;refine List.filter_eq_self.2 λk hk=>?_
      obtain⟨y,hy,rfl⟩:=List.mem_map.1 hk;have:=List.mem_range.1 hy;rw[hset _ (by omega),hun _ (by omega) (by omega)]; rfl
    refine Qk5 hT hR hbs ((Qgl hbs (K' := λτ => base <= τ.s.heap.length/\dOps base hvl P tb N ops _ τ K) (λτ h1 h2=>⟨h1,h2⟩) hfront)) λa' w' G' σ' s1 r1 d1 k1=>?_
    refine Qx3 hT hl hK hQ fuel _ σ' a' w' G' (by simp[hs]) hdn' (.inr hsetF) ?_ (hE.trans (s1.ex _)) r1 (d1.trans hd) k1.1 ?_
    .rw[hnew];simp at hf ⊢; omega
    .rw[hnew]; exact k1.2
   .exfalso;have:=hdn.reach hs (hRe i hip hil) λo2 ho2 e he hb=>by
     rw[ho'] at ho2;cases ho2;exact hp e he hb
    have h3:=hun p (Nat.le_refl _) (by omega);have hlt2:p<listed.size:=by omega
    simp only[Array.getD_eq_getD_getElem?,Array.getElem?_eq_getElem hlt2,Option.getD_some] at this h3;rw[this] at h3; cases h3
end
end Go.Proofs.YtfgegilhjlnohaaGreat
end
