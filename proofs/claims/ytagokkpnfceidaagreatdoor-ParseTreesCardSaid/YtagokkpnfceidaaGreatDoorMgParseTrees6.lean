/- The proof's texts, part 6 of 12: the walks by a logic in which data are by value, the plain laws, and at the end the law, for every input. -/
import Derived.Test.YtagokkpnfceidaaGreatDoorMgParseTrees5
import Derived.Shelf.RegionOpenPlain
import Derived.Lib.Strings
import Derived.Lib.Walk
import Derived.Lib.Builder
import Derived.Lib.UnsafeStr
import Derived.Laws.Externs
import Derived.Shelf.Strings.Builder1
import Derived.Shelf.Strings.Trim
import Derived.Shelf.Small.Utf8
import Derived.Shelf.Small.Strs
import Derived.Shelf.Small.Wraps
import Derived.Shelf.Strings.BuilderF
import Derived.Shelf.Strings.BuilderK
import Derived.Shelf.Strings.Search1
import Derived.Shelf.Strings.Search2
import Derived.Shelf.Strings.Search3
import Derived.Shelf.LaysM
import Derived.Shelf.Strings.Shaped
import Derived.Shelf.Strings.Prefix
import Derived.Shelf.Strings.Runes
import Derived.Shelf.Strings.AsciiSet
import Derived.Shelf.Unicode.DecodeSlow
import Derived.Shelf.Strings.BuilderCap
import Derived.Test.YtagokkpnfceidaaGreatDoorProg
import Derived.Shelf.Strings.SlTrimAscii
import Derived.Below
import Derived.Laws.Bits
import Derived.Deep.DeepCutAuto
import Derived.Deep.CutRange
import Derived.Recover
import Derived.RecoverIn

noncomputable section
set_option linter.unusedVariables false
namespace Go.Proofs.YtagokkpnfceidaaGreatDoor
open Go.RowKit
theorem RelL.of_le{xs ys:List V}(h:LeL xs ys):RelL xs ys:=fun C w us hu hr=>⟨hu.trans h.1,fun j y u hy hu=>by
 obtain⟨x,hx⟩:=Qil h.1 hy;exact(hr j x u hx hu).le (h.2 j x y hx hy)⟩
def b2s(l:List Int):Option (List UInt8):=if l.all (fun n=>decide (0≤n∧n≤255))=true then some (l.map fun n=>UInt8.ofNat n.toNat) else none
theorem Qabg{R:Type}{l:List Int}{f:List UInt8→Option R}{r:R}{lv:List Nat}{K:D→List Nat→Prop}(h:(b2s l>>=f)=some r)(k:∀ m,b2s l=some m→f m=some r→K (.p (.v (Qpw m))) lv) :
  ∃ m:List UInt8,l.map (cNum .u8)=m.map Qey∧∃ d' live,LeD (.p (.v (Qpw m))) d' ∧ live=lv∧K d' live:=by
 refine Qag h fun m hm hf=>?_
 have hk:=k m hm hf;refine⟨m,?_,_,_,.refl _,rfl,hk⟩;unfold b2s at hm;split at hm
 ·rename_i hl;cases hm;rw[List.map_map];refine List.map_congr_left fun n hn=>?_
  have:=List.all_eq_true.1 hl n hn;simp only[decide_eq_true_eq] at this;obtain⟨N,rfl⟩:∃ N:Nat,n=(N:Int):=⟨n.toNat,by omega⟩;have hN:N≤255:=by omega
  simp only[Function.comp,cNum,nV,Qey,Int.toNat_natCast,UInt8.toNat_ofNat'];rw[Nat.mod_eq_of_lt (by omega)]
 ·cases hm
def s2b(l:List UInt8):List Int:=l.map fun x=>(x.toNat:Int)
theorem Qae2(a:List Int)(b:List UInt8):a.map (cNum .u8)++b.map Qey=(a++s2b b).map (cNum .u8):=by
 rw[List.map_append];unfold s2b;rw[List.map_map];rfl
theorem Qahy{R:Type}{bytes:Nat}{a:List Int}{b:List UInt8}{sz tk e:Nat}{f:List Int→Option R}{r:R}{lv:List Nat}{K:D→List Nat→Prop}(h:(appL bytes a (s2b b)>>=f)=some r)(hl:lv[tk]? = some (a.map (cNum .u8)).length)
  (k:∀ o,appL bytes a (s2b b)=some o→f o=some r→K (.own tk e sz (o.map (cNum .u8))) (lv.set tk (o.map (cNum .u8)).length)) :
  lv[tk]? = some (a.map (cNum .u8)).length∧(((a.map (cNum .u8)).length+b.length)*bytes≤140737488355328∧(a.map (cNum .u8)).length+b.length≤9223372036854775807) ∧
   ∃ d' live,LeD (.own tk e sz (a.map (cNum .u8)++b.map Qey)) d' ∧ live=lv.set tk (a.map (cNum .u8)++b.map Qey).length∧K d' live:=by
 refine Qag h fun o ho hf=>?_
 have hk:=k o ho hf;unfold appL at ho;split at ho
 ·rename_i hc;cases ho;rw[Qae2,List.length_map];simp only[s2b,List.length_map] at hc;exact⟨by rw[List.length_map] at hl; exact hl,hc,_,_,.refl _,rfl,hk⟩
 ·cases ho
def rgP:Code→List Nat
 | .rangeFunc _ ps _ _=>ps.toList
 | _=>[]
def rgA:Code→Code
 | .rangeFunc _ _ a _=>a
 | _ =>.skip
def rgB:Code→Code
 | .rangeFunc _ _ _ b=>b
 | _ =>.skip
section
variable {P:Program}
theorem Qahz{α R:Type}{x:Option α}{f : α → Option R}{r:R}{g:FuncId}{args:List D}{s:S}{base:Nat}(t : α → D)(s' : α → S){K:D→S→Prop}(h:(x>>=f)=some r)(hok:∀ y,x=some y→Qahr base P g args s (t y) (s' y))(k:∀ y,x=some y→f y=some r→K (t y) (s' y)) :
  ∃ r s', Qahr base P g args s r s' ∧ K r s' := Qag h fun y hy hf=>⟨t y,s' y,hok y hy,k y hy hf⟩
theorem Q9g{k m N:Nat}{ps:List Nat}{asn body:Code}{env:Env}{Q:Exit→St→Prop}{α : Type}{c : α → List V}{x : α}{r:List α}{s:S}
  (h:T (k,m) P N asn (fun e σ1=>e = .normal∧T (k,m) P N body (fun e σ2=>∃ s', Le (k,m) N ⟨[],σ2.s⟩ ⟨[],s'⟩∧s'.heap.length=k∧s'.live.length=m ∧
   match e with
   | .normal=>RL k m P N ps asn body env Q (r.map c) s'
   | .ret=>Q .ret ⟨env,s'⟩
   | .exit i=>Q (.exit i) ⟨env,s'⟩
   | _=>False) σ1) ⟨putP ps (c x) env,s⟩):RL k m P N ps asn body env Q ((x::r).map c) s:=h
theorem Qae3{k m N:Nat}{ps:List Nat}{asn body:Code}{env:Env}{Q:Exit→St→Prop}{α : Type}{c : α → List V}{s:S}(h:Q .normal ⟨env,s⟩):RL k m P N ps asn body env Q (([]:List α).map c) s:=h
def Stop(B:Nat×Nat)(N:Nat)(xs:List (List V))(σ : St):Prop:=∃ s', Le B N σ ⟨[],s'⟩∧s'.heap.length=B.1∧s'.live.length=B.2∧s'.live[0]? = some (xs.length+1)
def Qs(B:Nat×Nat)(N:Nat)(xs:List (List V))(J:Exit→St→Prop)(e:Exit)(σ : St):Prop:=J e σ ∨ (e = .ret∧Stop B N xs σ)
theorem env0{B:Nat×Nat}{N:Nat}{env:Env}{s:S}:Le B N ⟨env,s⟩ ⟨[],s⟩:=⟨fun G a w hR=>⟨G,.refl B G w,⟨hR.inv,fun t d h=>by simp at h,hR.size⟩⟩⟩
theorem le01{N:Nat}{σ : St}{n:Nat}(h : σ.s.live[0]? = some n):Le (0,1) N σ ⟨[],⟨[],[n]⟩⟩:=by
 obtain⟨env,s⟩ := σ;refine env0.trans (Le.tow 0 1 rfl .nil .nil ?_ (Nat.le_refl _) (Nat.le_refl _) rfl);cases hs:s.live with
 | nil=>simp[hs] at h
 | cons a l=>simp[hs] at h; simp[h]
theorem Qah0{N:Nat}{xs:List (List V)}{σ : St}(h : σ.s.live[0]? = some (xs.length+1)):Stop (0,1) N xs σ := ⟨_,le01 h,rfl,rfl,rfl⟩
theorem Qah1{N:Nat}{xs:List (List V)}{e:Exit}{σ : St}(he:e = .normal∨e = .ret)(h : σ.s.live[0]? = some (xs.length+1)):∃ τ,Le (0,1) N σ τ ∧ IEnd N xs e τ := ⟨_,le01 h,.inr ⟨he,.refl _ _ _⟩⟩
theorem Qaj5{α O:Type}{c : α → List V}{N:Nat}{xs pre:List (List V)}{e:Exit}{σ : St}{l:List α}{y o2:O}(h:some ([],y)=some (l,o2))(hx:xs=pre++(l.map c++[]))(he:e = .normal∨e = .ret)(hl : σ.s.live[0]? = some pre.length):∃ τ,Le (0,1) N σ τ ∧ IEnd N xs e τ := by
 cases h;have:xs.length=pre.length:=by rw[hx]; simp
 refine⟨_,le01 hl,.inl ⟨he,?_⟩⟩;rw[this];exact .refl _ _ _
theorem sndI{α O:Type}{l:List α}{y o2:O}(h:some (([]:List α),y)=some (l,o2)):some y=some o2:=by cases h; rfl
theorem Qaj6{α O:Type}{c : α → List V}{xs pre gq post:List (List V)}{l:List α}{y o2:O}{L L' : List Nat}(h:some ([],y)=some (l,o2))(hx:xs=pre++(l.map c++post))(hq:xs=gq++post)(hl:L=pre.length::L'):L=gq.length::L' := by
 cases h;have e1:xs.length=pre.length+post.length:=by rw[hx]; simp
 have e2:xs.length=gq.length+post.length:=by rw[hq]; simp
 rw[hl,show pre.length=gq.length by omega]
theorem Qaj7{B:Nat×Nat}{N:Nat}{xs:List (List V)}{J G:Exit→St→Prop}(k:∀ e σ,J e σ → ∃ τ,Le B N σ τ ∧ G e τ)(s:∀ s' : S,s'.heap.length=B.1→s'.live.length=B.2→s'.live[0]? = some (xs.length+1)→G .ret ⟨[],s'⟩):∀ e σ,Qs B N xs J e σ → ∃ τ,Le B N σ τ ∧ G e τ := fun e σ h=>by
 rcases h with h | ⟨rfl,s', h1,h2,h3,h4⟩
 ·exact k e σ h
 ·exact⟨_,h1,s s' h2 h3 h4⟩
theorem Qajb{α O:Type}{c : α → List V}{xs pre post:List (List V)}{x : α}{m:Option (List α × O)}{l:List α}{o2:O}{t:Nat}{ds:List D}{vs:List V}{s:S}{K:D→S→Prop}
  (h:(m>>=fun q=>some (x::q.1,q.2))=some (l,o2)) (hx:xs=pre++(l.map c++post)) (hl:LeL vs (c x)) (hu:unps ds=some vs) (hlive:s.live[t]? = some pre.length)
  (k1:∀ l', m=some (l', o2)→xs=(pre++[c x])++(l'.map c++post)→K (.p (.v (.bool true))) ⟨s.heap,s.live.set t (pre++[c x]).length⟩) (k2:K (.p (.v (.bool false))) ⟨s.heap,s.live.set t (xs.length+1)⟩) :
  true=true∧P=P∧Qaea t xs ds s K:=by
 obtain⟨q,hm,hq⟩:=Option.bind_eq_some_iff.1 h;cases hq;have e:xs=(pre++[c x])++(q.1.map c++post):=by rw[hx]; simp
 refine⟨rfl,rfl,pre.length,c x,vs,hlive,?_,hu,.of_le hl,?_,k2⟩
 ·rw[hx]; simp
 ·have:=k1 q.1 hm e;rw[List.length_append] at this;exact this
theorem Q3b{α O R:Type}{c : α → List V}{xs pre post:List (List V)}{m:Option (List α × O)}{f:List α × O→Option (List α × R)}{l:List α}{o2:R}{φ : Prop}
  (h:(m>>=fun o=>f o>>=fun q=>some (o.1++q.1,q.2))=some (l,o2)) (hx:xs=pre++(l.map c++post))
  (k:∀ o l2 gq,m=some o→f o=some (l2,o2)→xs=pre++(o.1.map c++(l2.map c++post))→xs=gq++(l2.map c++post) → φ) : φ := by
 obtain⟨o,ho,hf⟩:=Option.bind_eq_some_iff.1 h;obtain⟨q,hq,he⟩:=Option.bind_eq_some_iff.1 hf;cases he;exact k o q.1 (pre++o.1.map c) ho hq (by rw[hx]; simp) (by rw[hx]; simp)
theorem Le.env0{B:Nat×Nat}{N:Nat}(σ : St):Le B N σ ⟨[],σ.s⟩:=⟨fun G _ w hR=>⟨G,.refl B G w,⟨hR.inv,fun t d h=>by simp at h,hR.size⟩⟩⟩
theorem Qae4{α : Type}{c : α → List V}{size:Nat}(hs:∀ x,(c x).length=size):∀ (l:List α) (i:Nat) (x : α),l[i]? = some x→((l.map c).flatten.drop (i*size)).take size=c x∧i*size+size≤(l.map c).flatten.length
 | [],i,x,h=>by simp at h
 | y::r,0,x,h=>by
  simp only[List.getElem?_cons_zero,Option.some.injEq] at h;subst h;refine⟨?_,?_⟩
  ·rw[Nat.zero_mul,List.drop_zero,List.map_cons,List.flatten_cons,List.take_append_of_le_length (Nat.le_of_eq (hs y).symm),List.take_of_length_le (Nat.le_of_eq (hs y))]
  ·rw[List.map_cons,List.flatten_cons,List.length_append,hs]; omega
 | y::r,i+1,x,h=>by
  rw[List.getElem?_cons_succ] at h;obtain⟨h1,h2⟩:=Qae4 hs r i x h;have e:(i+1)*size=(c y).length+i*size:=by rw[hs,Nat.add_mul]; omega
  refine⟨?_,?_⟩
  ·rw[e,List.map_cons,List.flatten_cons,List.drop_append];have e2:(c y).drop ((c y).length+i*size)=[]:=List.drop_eq_nil_of_le (by omega);rw[e2,List.nil_append,Nat.add_sub_cancel_left];exact h1
  ·rw[e,List.map_cons,List.flatten_cons,List.length_append]; omega
theorem Qajc:∀ l:List V,unps (l.map .p)=some l
 | []=>rfl
 | x::r=>by rw[List.map_cons,unps,Qajc r]; rfl
theorem Qah2{α R:Type}{l:List α}{n:Int}{len size:Nat}{c : α → List V}{te:TI}{cs:List V}{f : α → Option R}{r:R}{s:S}{K:D→S→Prop}(h:(idx l n>>=f)=some r)(hc:cs=(l.map c).flatten)(hl:l.length=len)(hz:te.size=size)(hs:∀ x,(c x).length=size)(ha:Qqb te.d=true)
  (k:∀ x,idx l n=some x→f x=some r→K (.p (.agg (c x))) s):0≤n∧n<(len:Int)∧Q0x te (.p (.agg cs)) (n.toNat*te.size) s K:=by
 refine Qag h fun x hx hf=>?_
 have hk:=k x hx hf;unfold idx at hx;split at hx
 ·rename_i hi;have hlt:=(List.getElem?_eq_some_iff.1 hx).1;refine⟨hi,by omega,?_⟩;subst hc;obtain⟨f1,f2⟩:=Qae4 hs l _ x hx;unfold Q0x;simp only[Qmt,ha,hz];rw[if_pos (by rw[List.length_map]; exact f2),← List.map_drop,← List.map_take,f1];unfold aggD;rw[Qajc];exact hk
 ·cases hx
theorem Qaj8{α R:Type}{l:List α}{n:Int}{len:Nat}{c : α → V}{te:TI}{cs:List V}{f : α → Option R}{r:R}{s:S}{K:D→S→Prop}(h:(idx l n>>=f)=some r)(hc:cs=l.map c)(hl:l.length=len)(hz:te.size=1)(ha:Qqb te.d=false)
  (k:∀ x,idx l n=some x→f x=some r→K (.p (c x)) s):0≤n∧n<(len:Int)∧Q0x te (.p (.agg cs)) (n.toNat*te.size) s K:=by
 refine Qag h fun x hx hf=>?_
 have hk:=k x hx hf;unfold idx at hx;split at hx
 ·rename_i hi;have hlt:=(List.getElem?_eq_some_iff.1 hx).1;refine⟨hi,by omega,?_⟩;subst hc;unfold Q0x;simp only[Qmt,ha,hz,Nat.mul_one];rw[List.getElem?_map,List.getElem?_map,hx];exact hk
 ·cases hx
end
theorem Qwf{α R:Type}{l:List α}{i:Int}{c c' : α → List V}{f : α → Option R}{r:R}{sz tk v:Nat}{lv:List Nat}{K:List V→Prop}(h:(idx l i>>=f)=some r)(hl:lv[tk]? = some v)(hc:∀ x,c x=c' x)(hs:∀ x,(c' x).length=sz)(hz:0<sz)(k:∀ x,idx l i=some x→f x=some r→K (c' x)) :
  lv[tk]? = some v∧∃ cell,0≤i∧(l.map c)[i.toNat]? = some cell∧cell.length=sz∧0<sz∧K cell:=⟨hl,Qcv h hc hs hz k⟩
theorem Qajd{α : Type}{l:List α}{c : α → List V}{i:Nat}{x:List V}{y : α}(h:LeL x (c y)):LeLL ((l.map c).set i x) ((l.set i y).map c):=by
 refine⟨by simp,fun j e e' he he' => ?_⟩;rw[List.getElem?_map] at he';obtain⟨z,hz,rfl⟩:=Option.map_eq_some_iff.1 he';by_cases hij:i=j
 ·subst hij;have hlt:i<l.length:=by have:=(List.getElem?_eq_some_iff.1 hz).1; simpa using this
  rw[List.getElem?_set_self (by simpa using hlt)] at he;rw[List.getElem?_set_self hlt] at hz;cases he; cases hz;exact h
 ·rw[List.getElem?_set_ne hij,List.getElem?_map] at he;rw[List.getElem?_set_ne hij] at hz;rw[hz] at he;cases he;exact .refl _
theorem Q3c{α R:Type}{bytes:Nat}{a b:List α}{c : α → List V}{fs:List (List V)}{sz tk v:Nat}{f:List α → Option R}{r:R}{lv:List Nat}{K:List (List V)→Prop}(h:(appL bytes a b>>=f)=some r)(hf:LeLL fs (b.map c))(hs:∀ x,(c x).length=sz)
  (hl:lv[tk]? = some v) (k:∀ o,appL bytes a b=some o→f o=some r→K (o.map c)) :
  lv[tk]? = some v∧((∀ x ∈ fs,x.length=sz)∧((a.map c).length+fs.length)*bytes≤140737488355328∧(a.map c).length+fs.length≤9223372036854775807)∧∃ es', LeLL (a.map c++fs) es' ∧ K es' := by
 refine Qag h fun o ho hk=>?_
 obtain⟨h1,h2,h3,-⟩:=Qaja ho hf hs;exact⟨hl,h1,_,h2,k o ho hk⟩
end Go.Proofs.YtagokkpnfceidaaGreatDoor
end

noncomputable section
namespace Go.Proofs.YtagokkpnfceidaaGreatDoor
open Go.RowKit
set_option linter.unusedSimpArgs false
set_option linter.unusedVariables false
@[simp] theorem Qbr {α : Type} (l:List α) (i:Nat):idx l (i:Int)=l[i]? := by
 unfold idx;rw[if_pos (by omega)];rfl
theorem Q9h{α : Type}(l:List α)(n:Nat):idx l (OfNat.ofNat n:Int)=l[n]? := Qbr l n
@[simp] theorem Qam1 {α : Type} (l:List α):idx l 0=l[0]? := Qbr l 0
@[simp] theorem Qanz {α : Type} (l:List α):idx l 1=l[1]? := Qbr l 1
@[simp] theorem Qac {α β : Type} (x : α) (f : α → Option β):(some x>>=f)=f x:=rfl
theorem Qd0{n:Int}(h1 : -9223372036854775808≤n)(h2:n≤9223372036854775807):wr n=n:=w64 h1 h2
theorem Qbn{i:Nat}(h:i<9223372036854775807):wr ((i:Int)+1)=((i+1:Nat):Int):=by rw[Qd0 (by omega) (by omega)]; rfl
theorem Qin{α : Type}{bytes:Nat}{a b:List α}(h:(a.length+b.length)*bytes≤140737488355328)(h2:a.length+b.length≤9223372036854775807):appL bytes a b=some (a++b):=by
 unfold appL; rw[if_pos ⟨h,h2⟩]
theorem Qku{α : Type}{l:List α}{lo hi:Int}(h1:0≤lo)(h2:lo≤hi)(h3:hi≤l.length):cutL l lo hi=some ((l.take hi.toNat).drop lo.toNat):=by
 unfold cutL; rw[if_pos ⟨h1,h2,h3⟩]
theorem Qa2{p:Prop}[Decidable p](h:p):need p=some ():=by unfold need; rw[if_pos h]
theorem getE{α : Type}{l:List α}{i:Nat}(h:i<l.length):l[i]? = some l[i]:=List.getElem?_eq_getElem h
theorem ltI(a b:Nat):decide ((a:Int)<(b:Int))=decide (a<b):=by
 congr 1; exact propext Int.ofNat_lt
theorem upto {α : Type} {l : List α} {φ : Nat → Prop} (h0 : φ l.length) (h : ∀ i, i < l.length → φ (i + 1) → φ i) : ∀ i, i ≤ l.length → φ i := by
  have key : ∀ n i, l.length - i = n → i ≤ l.length → φ i := by
    intro n
    induction n with
    | zero => intro i h1 h2; have : i = l.length := by omega
              subst this; exact h0
    | succ n ih => intro i h1 h2; exact h i (by omega) (ih (i + 1) (by omega) (by omega))
  exact fun i hi => key _ i rfl hi
theorem Qcj{α : Type}{l:List α}{i:Nat}(h:i<l.length):l.drop i=l[i]::l.drop (i+1):=List.drop_eq_getElem_cons h
theorem Qac0{G:Gh}{s:S}{w w' : World}(hI:Inv G s w){t:Nat}{T:Tok}(hT:G.tok[t]? = some T)(hp:T.pro=none)(h1:w'.os=w.os)(h2:w'.tape=w.tape)(h3:w'.output=w.output)(h4:w.heap.size≤w'.heap.size)
  (hold:∀ b,b<w.heap.size→T.blk≠some b→w'.heap[b]? = w.heap[b]?) (hcell:∀ g,T.blk=some g→∀ o u,w.cell? ⟨g,o,none⟩=some u→w'.cell? ⟨g,o,none⟩=some u) (hsh:ShKept w w') :
  Stp G w { G with tok:=G.tok.set t ⟨T.len+1,none,0,none⟩ } w' ∧ Inv { G with tok:=G.tok.set t ⟨T.len+1,none,0,none⟩ } { s with live:=s.live.set t (T.len+1) } w' := by
 obtain⟨N,hN⟩:∃ N:Tok,N=⟨T.len+1,none,0,none⟩:=⟨_,rfl⟩;have hNb:∀ b,¬ N.has b:=fun b hb=>by subst hN; exact(nomatch Tok.has_row.1 hb)
 rw[← hN];have hTm:T ∈ G.tok:=List.mem_of_getElem? hT;have hlt:t<G.tok.length:=(List.getElem?_eq_some_iff.1 hT).1;have hset:∀ (t' : Nat) T', (G.tok.set t N)[t']? = some T' → (t' = t∧T' = N)∨(t' ≠ t∧G.tok[t']? = some T'):=fun t' T' h=>by
  by_cases htt:t' = t
  ·subst htt;rw[List.getElem?_set_self hlt] at h;exact .inl ⟨rfl,(Option.some.inj h).symm⟩
  ·rw[List.getElem?_set_ne (fun e=>htt e.symm)] at h;exact .inr ⟨htt,h⟩
 have hmem:∀ T', T' ∈ G.tok.set t N→T' = N∨∃ t', t' ≠ t∧G.tok[t']? = some T' := fun T' h=>by
  obtain⟨t', ht'⟩:=List.getElem?_of_mem h;rcases hset t' T' ht' with ⟨-,h⟩ | ⟨h,h'⟩
  ·exact .inl h
  ·exact .inr ⟨t', h,h'⟩
 have hoth:∀ (t' : Nat) T' b,t' ≠ t→G.tok[t']? = some T' → T'.has b→w'.heap[b]? = w.heap[b]? := fun t' T' b hne h hb=>by
  obtain⟨k1,-,k3⟩:=hI.tok t' T' b h hb;exact hold b k1 fun e=>hne (k3 t T hT (.inl e)).symm
 have hnm:∀ b ∈ G.name,w'.heap[b]? = w.heap[b]? := fun b hb=>hold b (Qfs hI b hb) fun e=>(hI.tok t T b hT (.inl e)).2.1 hb
 have hst:Stp G w { G with tok:=G.tok.set t N } w' := by
  refine⟨⟨h1,h2,h3,h4,fun b o u h hu=>⟨h,?_⟩,fun b hb _ hn=>hold b hb fun e=>hn T hTm (.inl e),fun b o h =>.inl h,fun b h=>?_,fun _ _ h=>h,hsh⟩,fun nm b h=>h,fun t' T' h=>?_⟩
  ·by_cases hb:T.blk=some b
   ·exact hcell b hb o u hu
   ·rw[World.cell?_of_block (w:=w) (hold b (hI.com b o h).1 hb)]; exact hu
  ·rcases h with h | ⟨T', hT', hb⟩
   ·exact .inr (.inl h)
   ·rcases hmem T' hT' with rfl | ⟨t', -,h⟩
    ·exact absurd hb (hNb b)
    ·exact .inr (.inr ⟨T', List.mem_of_getElem? h,hb⟩)
  ·by_cases htt:t' = t
   ·subst htt;rw[hT] at h;cases h;refine⟨N,List.getElem?_set_self hlt,⟨by rw[hN]; exact Nat.le_succ _,by rw[hN,hp]⟩,fun e=>?_⟩;rw[hN] at e;have e:T.len=T.len+1:=e;omega
   ·refine⟨T', ?_,.refl T', fun _=>⟨rfl,fun b hb=>hoth t' T' b htt h hb⟩⟩;show(G.tok.set t N)[t']? = _;rw[List.getElem?_set_ne (fun e=>htt e.symm)]; exact h
 refine⟨hst,⟨fun b o h=>?_,hI.names,hI.nodup,fun i b cs hb hcs=>?_,?_,fun t' T' b h hb=>?_,fun T' hT' => ?_,hI.glob.mono hst.ext.com⟩⟩
 ·obtain⟨k1,k2,k3⟩:=hI.com b o h;refine⟨Nat.lt_of_lt_of_le k1 h4,k2,fun T' hT' => ?_⟩;rcases hmem T' hT' with rfl | ⟨t', -,h⟩
  ·exact⟨fun hb=>absurd (.inl hb) (hNb b),fun hb=>absurd (.inr hb) (hNb b)⟩
  ·exact k3 T' (List.mem_of_getElem? h)
 ·exact(hI.var i b cs hb hcs).mono hst (by rw[hnm b (List.mem_of_getElem? hb)])
 ·show(G.tok.set t N).map (·.len)=s.live.set t (T.len+1);rw[List.map_set,hI.live,hN]
 ·rcases hset t' T' h with ⟨-,rfl⟩ | ⟨hne,h⟩
  ·exact absurd hb (hNb b)
  ·obtain⟨k1,k2,k3⟩:=hI.tok t' T' b h hb;refine⟨Nat.lt_of_lt_of_le k1 h4,k2,fun t'' T'' h' hb' => ?_⟩;rcases hset t'' T'' h' with ⟨-,rfl⟩ | ⟨-,h'⟩
   ·exact absurd hb' (hNb b)
   ·exact k3 t'' T'' h' hb'
 ·rcases hmem T' hT' with rfl | ⟨t', hne,h⟩
  ·exact⟨fun q hq=>absurd hq (by rw[hN]; simp),fun b o ⟨q,hq,_⟩=>absurd hq (by rw[hN]; simp)⟩
  ·have hm:=List.mem_of_getElem? h;exact⟨Tok.ok_ext (hI.pro T' hm) hst.ext fun b hb=>hoth t' T' b hne h hb,fun b o hr=>(hI.pro T' hm).2 b o hr⟩
theorem Q9i{w:World}{g n:Nat}{us:Array Value}{e:TypeId}(h:w.heap[g]? = some (.cells us e (0,0)))(hn:n≠0):(w.freeze ⟨g,0,none⟩ n).heap[g]? = some (.cells us e (0,n))∧(∀ b,b≠g→(w.freeze ⟨g,0,none⟩ n).heap[b]? = w.heap[b]?)∧(w.freeze ⟨g,0,none⟩ n).heap.size=w.heap.size ∧
  (w.freeze ⟨g,0,none⟩ n).os=w.os∧(w.freeze ⟨g,0,none⟩ n).tape=w.tape∧(w.freeze ⟨g,0,none⟩ n).output=w.output:=by
 unfold World.freeze;rw[if_neg hn];refine⟨?_,fun b hb=>?_,by simp,rfl,rfl,rfl⟩
 ·simp[Array.getElem?_modify,h]
 ·simp[Array.getElem?_modify,Ne.symm hb]
end Go.Proofs.YtagokkpnfceidaaGreatDoor
end
noncomputable section
set_option linter.unusedVariables false
namespace Go.Proofs.YtagokkpnfceidaaGreatDoor
open Go.RowKit Go.Shelf
attribute [local go_sem] Oper.semAt_some
set_option maxRecDepth 100000 in
set_option maxHeartbeats 1000000 in
theorem Q05(b:Nat)(w:World)(h0:w.cell? ⟨b,0,none⟩=some (.pointer (some ⟨b,0,none⟩))) :
  Calls Tryz.prog 109 #[.pointer (some ⟨b,0,none⟩)] w fun e w' => e = .returned (.tuple #[])∧w' = w:=by
 obtain⟨_,j,hj,hjs,_⟩:=tbOk 113 _ rfl
 go_enter Tryz.func109,Tryz.ntmps109
 go_wp2
 rw[Lib.run_neq_ptr_same w _ Tryz.underlying111 hj]
 go_wp2
 go_end0
 exact⟨rfl,rfl⟩
set_option maxRecDepth 100000 in
set_option maxHeartbeats 1000000 in
theorem Qy7(b e n:Nat)(w:World)(h0:w.cell? ⟨b,0,none⟩=some (.pointer none))(hsh:w.shape? b=some (e,n))(hn:0<n)(hl:liesAt Tryz.prog Tryz.prog.depth e (n / Tryz.prog.cellsOf e) 0 113 1=true)(hfz:w.frozen? ⟨b,0,none⟩=false) :
  Calls Tryz.prog 109 #[.pointer (some ⟨b,0,none⟩)] w fun e w' => e = .returned (.tuple #[])∧w' = w.setCell ⟨b,0,none⟩ (.pointer (some ⟨b,0,none⟩)):=by
 obtain⟨_,j,hj,hjs,_⟩:=tbOk 113 _ rfl
 go_enter Tryz.func109,Tryz.ntmps109
 go_wp2
 rw[Lib.run_to_unsafe w ⟨b,0,none⟩ Tryz.underlying111 Tryz.underlying145 hj (by rw[hjs]; decide) hsh hn];simp only[Result.andThen];rw[Oper.upon_value]
 go_wp2
 rw[run_callFunc_extern Tryz.func118 (by kernel_rfl) (by kernel_rfl) (by kernel_rfl) (e:=Extern.AbiNoEscape.same) (by kernel_rfl)];rw[Lib.run_noEscape];simp only[Result.andThen];rw[Oper.upon_value]
 go_wp2
 rw[Lib.run_from_unsafe w ⟨b,0,none⟩ Tryz.underlying145 Tryz.underlying111 hj hsh hl];simp only[Result.andThen];rw[Oper.upon_value]
 go_wp2
 go_end0
 exact⟨rfl,rfl⟩
set_option maxRecDepth 100000 in
set_option maxHeartbeats 2000000 in
theorem Qt4(b n cap:Nat)(a:Option Addr)(q:Option Addr)(z:ByteArray)(w w1 w2:World)(h0:w.drew.cell? ⟨b,1,none⟩=some (.slice a n cap))(h1:w1.cell? ⟨b,1,none⟩=some (.slice a n cap))
  (hSD:(Builtin.unsafeSliceData_ #[33] 139 #[.slice a n cap]).run Tryz.prog w.drew = .ok (.pointer q) w1)
  (hUS:(Builtin.unsafeString_ #[139,3] 9 #[.pointer q,.int .i64 n]).run Tryz.prog w1 = .ok (.string z) w2) :
  Calls Tryz.prog 88 #[.pointer (some ⟨b,0,none⟩)] w fun e w' => e = .returned (.string z)∧w' = w2:=by
 have mixed:=mixed
 go_enter Tryz.func88,Tryz.ntmps88
 go_wp2
 go_region_o
 all_goals (go_wp2; go_ret; exact⟨rfl,rfl⟩)
end Go.Proofs.YtagokkpnfceidaaGreatDoor
end

noncomputable section
namespace Go.Proofs.YtagokkpnfceidaaGreatDoor
open Go.RowKit
set_option linter.unusedSimpArgs false
set_option linter.unusedVariables false
theorem Qae5{a:List Int}{l:List UInt8}(h:b2s a=some l):a.map (cNum .u8)=l.map Qey:=by
 unfold b2s at h;split at h
 ·rename_i hc;cases h;rw[List.map_map];refine List.map_congr_left fun n hn=>?_
  have:=List.all_eq_true.1 hc n hn;simp only[decide_eq_true_eq] at this;simp[cNum,Qey,nV];omega
 ·cases h
theorem Q06{P:Program}(w:World)(ts:Array TypeId)(ty e:TypeId)(hp:P.underlying ty=some (.pointer e))(a:Addr)(n:Nat)(hlt:a.block<w.heap.size) :
  ∃ q w1,(Builtin.unsafeSliceData_ ts ty #[.slice (some a) n 0]).run P w = .ok (.pointer q) w1∧(w1=w∨w1=w.alloc (.view a e)):=by
 cases hsh:w.shape? a.block with
 | some sh=>exact⟨_,_,Lib.run_unsafeSliceData_zero w ts ty e hp a n sh hsh,.inr rfl⟩
 | none =>
  have hdef:Builtin.unsafeSliceData_ ts ty #[.slice (some a) n 0] =
    (do
     if(0:Nat)≠0 then pure (.pointer (some a))
     else if(← viewAt a.block).isSome then pure (.pointer (some a))
     else pure (.pointer (some ⟨← newObj (.view a (← elemOf ty)),0,none⟩))):=rfl
  rw[hdef];obtain⟨o,ho⟩:∃ o,w.heap[a.block]? = some o:=⟨_,Array.getElem?_eq_getElem hlt⟩;have hg:∀ c t f,o ≠ .cells c t f:=fun c t f h=>by
   subst h;unfold World.shape? at hsh;rw[ho] at hsh; cases hsh
  have hgo:(getObj a.block).run P w = .ok o w:=by
   unfold getObj;simp only[Sem.run,ho]
  by_cases hv:∃ b t,o = .view b t
  ·obtain⟨b,t,rfl⟩:=hv;refine⟨some a,w,?_,.inl rfl⟩;simp[viewAt,hsh,hgo]
  ·refine⟨some ⟨w.heap.size,0,none⟩,_,?_,.inr rfl⟩;have hva:(viewAt a.block).run P w = .ok none w:=by
    simp only[viewAt];simp[hsh,hgo];cases o<;>first | rfl | exact absurd ⟨_,_,rfl⟩ hv
   simp[hva,elemOf,run_underlying hp]
theorem Q60(h:List (List D))(live:List Nat)(nm:Nat){b:Bool}(ds:List D)(hds:h[nm]? = some ds)(hof:ds[0]? = some (.sp Tryz.prog 113 b nm 0)) :
  CallOK Tryz.prog 109 [.ptr nm 0] ⟨h,live⟩ (.tup []) ⟨h.set nm (ds.set 0 (.sp Tryz.prog 113 true nm 0)),live⟩:=by
 refine⟨by kernel_rfl,fun G w us hI hl hrel=>?_⟩;obtain⟨u,rfl⟩:∃ u,us = #[u]:=⟨us[0]'(by rw[hl]; exact Nat.zero_lt_one),by
  apply Array.ext (by simpa using hl);intro i h1 h2;have:i=0:=by simp at h2; omega
  subst this; rfl⟩
 have hp:=hrel 0 _ u rfl rfl;cases hp with
 | ptr _ _ k hk =>
  obtain⟨vs,ty,v1,v2,v3⟩:=(hI.var nm k ds hk hds).at hof (fun _ h=>nomatch h);have hlt:0<vs.size:=by rw[v2]; exact(List.getElem?_eq_some_iff.1 hof).1
  have hc:=v3 0 _ vs[0] hof (Array.getElem?_eq_getElem hlt);have hcell:w.cell? ⟨k,0,none⟩=some vs[0]:=by
   rw[cell_of_row w k 0 vs ty (0,0) v1]; exact Array.getElem?_eq_getElem hlt
  cases hc.2 with
  | sp _ _ _ _ _ i e n _ h1 h2 h3 h4 h5 h6 =>
   have hik:i=k:=by rw[hk] at h1; exact(Option.some.inj h1).symm
   subst hik;cases b with
   | true =>
    rw[h6 rfl] at hcell;refine(Q05 i w hcell).mono ?_;rintro e w' ⟨rfl,rfl⟩;refine⟨_,G,rfl,.refl G _,?_,.tup _ _ rfl (fun j c u hc=>by simp at hc)⟩;refine hI.setCell (s:=⟨h,live⟩) hds (fun _ hd=>by rw[hof] at hd; cases hd) fun u hu=>?_
    obtain⟨c,hc,hu⟩:=hu;rw[hof] at hc;cases hc;exact hu
   | false =>
    rw[h5 rfl] at hcell;refine(Qy7 i e n w hcell h2 h3 h4 (by simp[World.frozen?,v1])).mono ?_;rintro e' w' ⟨rfl,rfl⟩;have hset:(w.setCell ⟨i,0,none⟩ (.pointer (some ⟨i,0,none⟩))).heap[i]? = some (.cells (vs.setIfInBounds 0 (.pointer (some ⟨i,0,none⟩))) ty (0,0)):=by
     simp[World.setCell,Array.getElem?_modify,v1]
    have hoth:∀ b,b≠i→(w.setCell ⟨i,0,none⟩ (.pointer (some ⟨i,0,none⟩))).heap[b]? = w.heap[b]? := fun b hb=>by
     simp[World.setCell,Array.getElem?_modify,Ne.symm hb]
    obtain⟨s1,s2⟩:=Qyf hI nm i hk vs ty v1 (ds.set 0 (.sp Tryz.prog 113 true nm 0)) (vs.setIfInBounds 0 (.pointer (some ⟨i,0,none⟩))) (by simp[v2]) (by simp) (fun j c u hc hu=>by
     by_cases hj:j=0
     ·subst hj;rw[List.getElem?_set_self (by rw[← v2]; exact hlt)] at hc;cases hc;rw[Array.getElem?_setIfInBounds_self_of_lt hlt] at hu;cases hu;exact⟨rfl,.sp _ _ _ _ _ i e n _ hk h2 h3 h4 (fun h=>by cases h) (fun _=>rfl)⟩
     ·rw[List.getElem?_set_ne (fun e=>hj e.symm)] at hc;rw[Array.getElem?_setIfInBounds_ne (fun e=>hj e.symm)] at hu;exact v3 j c u hc hu) (w.setCell ⟨i,0,none⟩ (.pointer (some ⟨i,0,none⟩))) rfl rfl rfl (by simp[World.setCell]) hset hoth
    exact⟨_,G,rfl,s1,s2,.tup _ _ rfl (fun j c u hc=>by simp at hc)⟩
theorem Qxp(h:List (List D))(live:List Nat)(nm t:Nat)(ds:List D)(es:List (List V)){l:List UInt8}(hds:h[nm]? = some ds)(hof:ds[1]? = some (.own t 5 1 es))(hlv:live[t]? = some es.length)(hes:es=l.map Qey) :
  CallOK Tryz.prog 88 [.ptr nm 0] ⟨h,live⟩ (.p (.v (Qpw l))) ⟨h.set nm (ds.set 1 (.p (.sl false es))),live.set t (es.length+1)⟩:=by
 refine⟨by kernel_rfl,fun G w us hI hl hrel=>?_⟩;obtain⟨u,rfl⟩:∃ u,us = #[u]:=⟨us[0]'(by rw[hl]; exact Nat.zero_lt_one),by
  apply Array.ext (by simpa using hl);intro i h1 h2;have:i=0:=by simp at h2; omega
  subst this; rfl⟩
 have hp:=hrel 0 _ u rfl rfl;have hln:es.length=l.length:=by rw[hes,List.length_map]
 cases hp with
 | ptr _ _ k hk =>
  obtain⟨vs,ty,v1,v2,v3⟩:=(hI.var nm k ds hk hds).at hof (fun _ h=>nomatch h);have hlt:1<vs.size:=by rw[v2]; exact(List.getElem?_eq_some_iff.1 hof).1
  have hc:=(v3 1 _ vs[1] hof (Array.getElem?_eq_getElem hlt)).2;have hcell:w.cell? ⟨k,1,none⟩=some vs[1]:=by
   rw[cell_of_row w k 1 vs ty (0,0) v1]; exact Array.getElem?_eq_getElem hlt
  obtain⟨v,hv⟩:∃ v,v=vs[1]:=⟨_,rfl⟩;rw[← hv] at hcell hc;cases hc with
  | own _ _ _ _ _ T x1 x2 x3 x0 x4 x5 =>
   have hlen:es.length=T.len:=by
    have:(G.tok.map (·.len))[t]? = some T.len:=by rw[List.getElem?_map,x3]; rfl
    rw[hI.live,hlv] at this;exact Option.some.inj this
   obtain⟨a,cap,rfl,hO⟩:=x5 hlen;obtain⟨a2,cap2,e2,c1,c2,-⟩:=x1.isSlice;cases e2;have fin:∀ w' : World,w'.os=w.os→w'.tape=w.tape→w'.output=w.output→w.heap.size≤w'.heap.size→(∀ b,b<w.heap.size→T.blk≠some b→w'.heap[b]? = w.heap[b]?) →
     (∀ g,T.blk=some g→∀ o u,w.cell? ⟨g,o,none⟩=some u→w'.cell? ⟨g,o,none⟩=some u)→ShKept w w' → ∃ u G', Ending.returned (.string ⟨l.toArray⟩) = .returned u∧Stp G w G' w' ∧ Inv G' ⟨h.set nm (ds.set 1 (.p (.sl false es))),live.set t (es.length+1)⟩ w' ∧ DRel G' w' (.p (.v (Qpw l))) u:=fun w' k1 k2 k3 k4 k5 k6 k7=>by
    obtain⟨s1,s2⟩:=Qac0 hI x3 x0 k1 k2 k3 k4 k5 k6 k7;rw[← hlen] at s1 s2;refine⟨_,_,rfl,s1,s2.setCell (s:=⟨h,live.set t (es.length+1)⟩) hds (fun _ hd=>by rw[hof] at hd; cases hd) fun u hu=>?_,.p _ _ (.v _ rfl)⟩;obtain⟨c,hc,hu⟩:=hu;rw[hof] at hc;cases hc;cases hu with
    | own _ _ _ _ _ _ y1=>exact .p _ _ y1
   have hcd:w.drew.cell? ⟨k,1,none⟩=some (.slice a es.length cap):=hcell;have hb:=Tryz.underlying139;by_cases h0:es.length=0
   ·have hl0:l=[]:=List.eq_nil_of_length_eq_zero (by omega);subst hl0;have hUS:∀ q (W:World),(Builtin.unsafeString_ #[139,3] 9 #[.pointer q,.int .i64 es.length]).run Tryz.prog W = .ok (.string ⟨#[]⟩) W:=fun q W=>by rw[h0]; exact Lib.run_unsafeString_none W _ _ _ q
    have plain:∀ q,(Builtin.unsafeSliceData_ #[33] 139 #[.slice a es.length cap]).run Tryz.prog w.drew = .ok (.pointer q) w.drew→Calls Tryz.prog 88 #[.pointer (some ⟨k,0,none⟩)] w fun e w' => ∃ u G', e = .returned u∧Stp G w G' w' ∧ Inv G' ⟨h.set nm (ds.set 1 (.p (.sl false es))),live.set t (es.length+1)⟩ w' ∧ DRel G' w' (.p (.v (Qpw []))) u:=fun q hSD=>by
     refine(Qt4 k es.length cap a q ⟨#[]⟩ w w.drew w.drew hcd hcd hSD (hUS q _)).mono ?_;rintro e w' ⟨rfl,rfl⟩;exact fin w.drew rfl rfl rfl (Nat.le_refl _) (fun _ _ _=>rfl) (fun _ _ _ _ h=>h) (fun _ _ h=>h)
    cases a with
    | none=>exact plain none rfl
    | some ad =>
     by_cases hc0:cap=0
     ·subst hc0;have hlt:ad.block<w.drew.heap.size:=by
       rcases hO with hO | ⟨g,us,T', e1,-,-,-,⟨_,e5,-⟩,-⟩ | hO
       ·exact hO.2 ad rfl
       ·cases e1; exact(Array.getElem?_eq_some_iff.1 e5).1
       ·exact absurd hO.1 (by decide)
      obtain⟨q,w1,hSD,hw1⟩:=Q06 w.drew #[33] 139 5 hb ad es.length hlt;rcases hw1 with rfl | rfl
      ·exact plain q hSD
      ·have hk2:k<w.heap.size:=(Array.getElem?_eq_some_iff.1 v1).1;have hc2:(w.drew.alloc (.view ad 5)).cell? ⟨k,1,none⟩=some (.slice (some ad) es.length 0):=(Qye w.drew _ k 1 hk2).trans hcd;refine(Qt4 k es.length 0 (some ad) _ ⟨#[]⟩ w _ _ hcd hc2 hSD (hUS _ _)).mono ?_;rintro e w' ⟨rfl,rfl⟩;have hh:∀ b,b<w.heap.size→(w.drew.alloc (.view ad 5)).heap[b]? = w.heap[b]? := fun b hb=>by
        rw[Qgy,if_neg (by show ¬ b=w.heap.size; omega)]; rfl
       refine fin _ rfl rfl rfl (by simp) (fun b hb _=>hh b hb) (fun g hg o u hu=>?_) (Q2l w.drew _);exact(Qye w.drew _ g o (Qwx hu)).trans hu
     ·exact plain (some ad) (Lib.run_unsafeSliceData_row _ _ _ _ _ _ hc0)
   ·rcases hO with hO | ⟨g,us,T', e1,e2,e3,e4,e5,e6⟩ | hO
    ·omega
    rotate_left
    ·exact absurd hO.1 (by decide)
    ·have e5:=e5.lt (by decide);rw[Qoi (by decide)] at e5;subst e1;rw[x3] at e2;cases e2;have hSD:(Builtin.unsafeSliceData_ #[33] 139 #[.slice (some ⟨g,0,none⟩) es.length cap]).run Tryz.prog w.drew = .ok (.pointer (some ⟨g,0,none⟩)) w.drew:=Lib.run_unsafeSliceData_row _ _ _ _ _ _ (by omega);have hl0:l≠[]:=fun h' => by subst h'; exact h0 (by rw[hln]; rfl)
     have hcl:∀ (j:Nat) x,l[j]? = some x→w.drew.cell? ((⟨g,0,none⟩:Addr).add j)=some (.int .u8 x.toNat):=fun j x hx=>by
      have he:es[j]? = some (Qey x):=by rw[hes,List.getElem?_map,hx]; rfl
      obtain⟨olds,o1,o2,o3,o4⟩:=x1.flat 1 x2 (by decide);obtain⟨u,hu,hr⟩:=o2 j 0 _ _ he (show(Qey x)[0]? = some _ from rfl);have hux:u = .int .u8 x.toNat:=by cases hr; rfl
      subst hux;rcases o4 with o4 | ⟨b,off,q1,q2⟩
      ·omega
      ·cases q1;have:=(q2 _ _ hu).1;rw[Qqc];simpa using this
     have hUS:=Lib.run_unsafeString_row (P:=Tryz.prog) w.drew 139 3 9 5 hb (by kernel_rfl) g us.size (Qld (w:=w.drew) e5) l hl0 (by rw[e6]; omega) (by unfold maxLen at c2; omega) hcl;rw[← hln] at hUS;have hgk:k≠g:=fun e=>(hI.tok t T g x3 (.inl e3)).2.1 (e ▸ List.mem_of_getElem? hk)
     refine(Qt4 k es.length cap _ _ ⟨l.toArray⟩ w w.drew _ hcd hcd hSD hUS).mono ?_;rintro e w' ⟨rfl,rfl⟩;obtain⟨f1,f2,f3,f4,f5,f6⟩:=Q9i (w:=w.drew) (n:=es.length) e5 h0;refine fin _ f4 f5 f6 (Nat.le_of_eq f3.symm) (fun b _ hb=>f2 b fun e=>hb (e ▸ e3)) (fun g' hg' o u hu=>?_) (fun b sh hb=>?_)
     ·rw[e3] at hg';cases hg';rw[cell_of_row w g o us 5 (0,0) e5] at hu;rw[cell_of_row _ g o us 5 _ f1]; exact hu
     ·by_cases hbg:b=g
      ·subst hbg;rw[Qld e5] at hb;rw[Qld f1]; exact hb
      ·rw[Qms (w:=w) (f2 b hbg)]; exact hb
end Go.Proofs.YtagokkpnfceidaaGreatDoor
end
noncomputable section
namespace Go.Proofs
open Go.Shelf
def Tryz.lays161_ren:Go.Shelf.Ren:=⟨fun | 161=>49 | 231=>79 | 227=>80 | 233=>81 | 235=>82 | 228=>104 | 197=>105 | 151=>106 | 260=>116 | 152=>117 | 137=>121 | 119=>122 | 224=>77 | 225=>76 | 217=>75 | 266=>102 | n=>n,fun | 9=>9 | 4=>4 | 3=>3 | 5=>5 | 117=>107 | 116=>106 | 0=>0 | 124=>110 | 105=>114 | 21=>21 | 119=>147 | 46=>103 | 139=>150 | 138=>149 | n=>n,fun | 3=>1 | 4=>2 | n=>n⟩
theorem Tryz.lays161:Go.Proofs.Lays.n161 Tryz.prog Tryz.lays161_ren:={
 mixed:=by kernel_rfl
 f119:=Tryz.func122.trans (congrArg some (by kernel_rfl))
 f137:=Tryz.func121.trans (congrArg some (by kernel_rfl))
 f151:=Tryz.func106.trans (congrArg some (by kernel_rfl))
 f152:=Tryz.func117.trans (congrArg some (by kernel_rfl))
 f161:=Tryz.func49.trans (congrArg some (by kernel_rfl))
 f197:=Tryz.func105.trans (congrArg some (by kernel_rfl))
 f217:=Tryz.func75.trans (congrArg some (by kernel_rfl))
 f224:=Tryz.func77.trans (congrArg some (by kernel_rfl))
 f225:=Tryz.func76.trans (congrArg some (by kernel_rfl))
 f227:=Tryz.func80.trans (congrArg some (by kernel_rfl))
 f228:=Tryz.func104.trans (congrArg some (by kernel_rfl))
 f231:=Tryz.func79.trans (congrArg some (by kernel_rfl))
 f233:=Tryz.func81.trans (congrArg some (by kernel_rfl))
 f235:=Tryz.func82.trans (congrArg some (by kernel_rfl))
 f260:=Tryz.func116.trans (congrArg some (by kernel_rfl))
 f266:=Tryz.func102.trans (congrArg some (by kernel_rfl))
 t0:=Tryz.underlying0
 a0:=Tryz.isAgg0
 z0:=Tryz.sizeOf0
 v0:=Tryz.zeroValue0
 t3:=Tryz.underlying3
 a3:=Tryz.isAgg3
 z3:=Tryz.sizeOf3
 v3:=Tryz.zeroValue3
 t4:=Tryz.underlying4
 a4:=Tryz.isAgg4
 z4:=Tryz.sizeOf4
 v4:=Tryz.zeroValue4
 t5:=Tryz.underlying5
 a5:=Tryz.isAgg5
 z5:=Tryz.sizeOf5
 v5:=Tryz.zeroValue5
 t9:=Tryz.underlying9
 a9:=Tryz.isAgg9
 z9:=Tryz.sizeOf9
 v9:=Tryz.zeroValue9
 t21:=Tryz.underlying21
 a21:=Tryz.isAgg21
 z21:=Tryz.sizeOf21
 v21:=Tryz.zeroValue21
 t46:=Tryz.underlying103
 a46:=Tryz.isAgg103
 z46:=Tryz.sizeOf103
 v46:=Tryz.zeroValue103
 t105:=Tryz.underlying114
 a105:=Tryz.isAgg114
 z105:=Tryz.sizeOf114
 v105:=Tryz.zeroValue114
 t116:=Tryz.underlying106
 a116:=Tryz.isAgg106
 z116:=Tryz.sizeOf106
 t117:=Tryz.underlying107
 a117:=Tryz.isAgg107
 z117:=Tryz.sizeOf107
 v117:=Tryz.zeroValue107
 t119:=Tryz.underlying147
 a119:=Tryz.isAgg147
 z119:=Tryz.sizeOf147
 t124:=Tryz.underlying110
 a124:=Tryz.isAgg110
 z124:=Tryz.sizeOf110
 v124:=Tryz.zeroValue110
 t138:=Tryz.underlying149
 a138:=Tryz.isAgg149
 z138:=Tryz.sizeOf149
 v138:=Tryz.zeroValue149
 t139:=Tryz.underlying150
 a139:=Tryz.isAgg150
 z139:=Tryz.sizeOf150
 v139:=Tryz.zeroValue150
 g3:=by kernel_rfl
 g4:=by kernel_rfl }
def Tryz.lays103_ren:Go.Shelf.Ren:=⟨fun | 103=>110 | 210=>119 | 206=>83 | n=>n,fun | 9=>9 | 4=>4 | 24=>29 | 3=>3 | n=>n,fun | n=>n⟩
theorem Tryz.lays103:Go.Proofs.Lays.n103 Tryz.prog Tryz.lays103_ren:={
 mixed:=by kernel_rfl
 f103:=Tryz.func110.trans (congrArg some (by kernel_rfl))
 f206:=Tryz.func83.trans (congrArg some (by kernel_rfl))
 f210:=Tryz.func119.trans (congrArg some (by kernel_rfl))
 t3:=Tryz.underlying3
 a3:=Tryz.isAgg3
 z3:=Tryz.sizeOf3
 v3:=Tryz.zeroValue3
 t4:=Tryz.underlying4
 a4:=Tryz.isAgg4
 z4:=Tryz.sizeOf4
 v4:=Tryz.zeroValue4
 t9:=Tryz.underlying9
 a9:=Tryz.isAgg9
 z9:=Tryz.sizeOf9
 v9:=Tryz.zeroValue9
 t24:=Tryz.underlying29
 a24:=Tryz.isAgg29
 z24:=Tryz.sizeOf29
 v24:=Tryz.zeroValue29 }
open Go.RowKit in
theorem Tryz.strings_CutPrefix(s p:ByteArray)(w:World) :
  Calls Tryz.prog 110 #[.string s,.string p] w fun e w' => e = .returned (.tuple #[.string ⟨(Lib.trimPrefix s.data.toList p.data.toList).toArray⟩,.bool (Lib.hasPrefix s.data.toList p.data.toList)])∧w' = w:=Any.strings_CutPrefix Tryz.lays103 s p w
def Tryz.lays219_ren:Go.Shelf.Ren:=⟨fun | 219=>48 | 217=>75 | 225=>76 | 224=>77 | 267=>78 | 266=>102 | 314=>103 | n=>n,fun | 9=>9 | 3=>3 | 4=>4 | 5=>5 | 46=>103 | 146=>132 | 51=>131 | n=>n,fun | 1=>0 | n=>n⟩
theorem Tryz.lays219:Go.Proofs.Lays.n219 Tryz.prog Tryz.lays219_ren:={
 mixed:=by kernel_rfl
 f217:=Tryz.func75.trans (congrArg some (by kernel_rfl))
 f219:=Tryz.func48.trans (congrArg some (by kernel_rfl))
 f224:=Tryz.func77.trans (congrArg some (by kernel_rfl))
 f225:=Tryz.func76.trans (congrArg some (by kernel_rfl))
 f266:=Tryz.func102.trans (congrArg some (by kernel_rfl))
 f267:=Tryz.func78.trans (congrArg some (by kernel_rfl))
 f314:=Tryz.func103.trans (congrArg some (by kernel_rfl))
 t3:=Tryz.underlying3
 a3:=Tryz.isAgg3
 z3:=Tryz.sizeOf3
 v3:=Tryz.zeroValue3
 t4:=Tryz.underlying4
 a4:=Tryz.isAgg4
 z4:=Tryz.sizeOf4
 v4:=Tryz.zeroValue4
 t5:=Tryz.underlying5
 a5:=Tryz.isAgg5
 z5:=Tryz.sizeOf5
 v5:=Tryz.zeroValue5
 t9:=Tryz.underlying9
 a9:=Tryz.isAgg9
 z9:=Tryz.sizeOf9
 v9:=Tryz.zeroValue9
 t46:=Tryz.underlying103
 a46:=Tryz.isAgg103
 z46:=Tryz.sizeOf103
 v46:=Tryz.zeroValue103
 t51:=Tryz.underlying131
 a51:=Tryz.isAgg131
 z51:=Tryz.sizeOf131
 v51:=Tryz.zeroValue131
 t146:=Tryz.underlying132
 a146:=Tryz.isAgg132
 z146:=Tryz.sizeOf132
 v146:=Tryz.zeroValue132
 g1:=by kernel_rfl }
open Go.RowKit Go.Lib in
theorem Tryz.stringslite_Index(s sub:ByteArray)(m:Int)(w:World)(hs:s.size<4294967281)(hm:w.cell? ⟨0,0,none⟩=some (.int .i64 m)) :
  Calls Tryz.prog 48 #[.string s,.string sub] w fun e w' => e = .returned (.int .i64 (Lib.index s.data.toList sub.data.toList))∧w' = w:=Any.stringslite_Index Tryz.lays219 s sub m w hs hm
def Tryz.laysM219_ren:Go.Shelf.Ren:=⟨fun | 219=>48 | 217=>75 | 225=>76 | 224=>77 | 267=>78 | 266=>102 | 314=>103 | n=>n,fun | 9=>9 | 3=>3 | 4=>4 | 5=>5 | 46=>103 | 146=>132 | 51=>131 | n=>n,fun | 1=>0 | n=>n⟩
theorem Tryz.laysM219:Go.Proofs.LaysM.n219 Tryz.prog Tryz.laysM219_ren:={
 mixed:=by kernel_rfl
 f217:=Tryz.func75.trans (congrArg some (by kernel_rfl))
 f219:=Tryz.func48.trans (congrArg some (by kernel_rfl))
 f224:=Tryz.func77.trans (congrArg some (by kernel_rfl))
 f225:=Tryz.func76.trans (congrArg some (by kernel_rfl))
 f266:=Tryz.func102.trans (congrArg some (by kernel_rfl))
 f267:=Tryz.func78.trans (congrArg some (by kernel_rfl))
 f314:=Tryz.func103.trans (congrArg some (by kernel_rfl))
 t3:=Tryz.underlying3
 a3:=Tryz.isAgg3
 z3:=Tryz.sizeOf3
 v3:=Tryz.zeroValue3
 t4:=Tryz.underlying4
 a4:=Tryz.isAgg4
 z4:=Tryz.sizeOf4
 v4:=Tryz.zeroValue4
 t5:=Tryz.underlying5
 a5:=Tryz.isAgg5
 z5:=Tryz.sizeOf5
 v5:=Tryz.zeroValue5
 t9:=Tryz.underlying9
 a9:=Tryz.isAgg9
 z9:=Tryz.sizeOf9
 v9:=Tryz.zeroValue9
 t46:=Tryz.underlying103
 a46:=Tryz.isAgg103
 z46:=Tryz.sizeOf103
 v46:=Tryz.zeroValue103
 t51:=Tryz.underlying131
 a51:=Tryz.isAgg131
 z51:=Tryz.sizeOf131
 v51:=Tryz.zeroValue131
 t146:=Tryz.underlying132
 a146:=Tryz.isAgg132
 z146:=Tryz.sizeOf132
 v146:=Tryz.zeroValue132
 g1:=by kernel_rfl
 i3:=by kernel_rfl
 i4:=by kernel_rfl
 i5:=by kernel_rfl
 i9:=by kernel_rfl
 i46:=by kernel_rfl
 i51:=by kernel_rfl
 i146:=by kernel_rfl
 m1:=by kernel_rfl
 s1_3:=fun w h=>Go.Proofs.cell_of_shapedOpen_int (zero := #[.int .i64 0]) (t:=3) h (of_decide_eq_true (by kernel_rfl)) (by kernel_rfl) rfl (by kernel_rfl) (by kernel_rfl) Tryz.underlying3 }
end Go.Proofs
end

noncomputable section
namespace Go.Proofs.YtagokkpnfceidaaGreatDoor
open Go.RowKit
set_option linter.unusedSimpArgs false
set_option linter.unusedVariables false
theorem PCall.ofCallsG{P:Program}{f:FuncId}{args:List V}{r:D}{R:Value}(hn:isFn P f=true)(hr:∀ G w,DRel G w r R)
  (h:∀ w us,(∃ C,GlobOk C w)→us.size=args.length→(∀ (j:Nat) x u,args[j]? = some x→us[j]? = some u→∃ C,VRel C w x u)→Calls P f us w fun e w' => e = .returned R∧Below w.heap.size w w'):PCall P f args r :=
 ⟨hn,fun C w us hg hs hrel=>(h w us ⟨C,hg⟩ hs fun j x u hx hu=>⟨_,hrel j x u hx hu⟩).mono fun _ _ ⟨he,hb⟩=>⟨R,he,hr _ _,hb⟩⟩
theorem Qn3{C:Nat→Nat→Prop}{w:World}{l:List UInt8}{u:Value}(h:VRel C w (sV l) u):u = .string ⟨l.toArray⟩:=by cases h; rfl
theorem Qae6{C:Nat→Nat→Prop}{w:World}{k:IntKind}{n:Int}{u:Value}(h:VRel C w (.v (.int k n)) u):u = .int k n:=by cases h; rfl
theorem Qwg{w w' : World}(h:w' = w):Below w.heap.size w w' := by subst h; exact Below.refl _ _
theorem Qly{p:Prop}[Decidable p]{R:Type}{f:Unit→Option R}{r:R}(h:(need p>>=f)=some r):p∧f ()=some r:=by
 unfold need at h;split at h
 ·exact⟨by assumption,h⟩
 ·cases h
theorem Qah3(l s:List UInt8)(hl:l.length<4294967281):PCall Tryz.prog 48 [sV l,sV s] (.p (iV (Lib.index l s))):=by
 refine PCall.ofCallsG (by kernel_rfl) (fun _ _ =>.p _ _ (.v _ rfl)) fun w us hg hs h=>?_
 obtain⟨a,b,rfl⟩:=us2 hs;obtain⟨_,h0⟩:=h 0 _ a rfl rfl;obtain⟨_,h1⟩:=h 1 _ b rfl rfl;obtain⟨_,hg⟩:=hg;obtain⟨m,-,hm⟩:=hg.1 0 (by simp[Qadz]);rw[Qn3 h0,Qn3 h1];exact(Tryz.stringslite_Index _ _ m w (by show l.toArray.size<_; simpa using hl) hm).mono fun e w' ⟨he,hw⟩=>⟨he,Qwg hw⟩
section
variable {P:Program} {tb:Tbl}
theorem Q9j{f:FuncId}{fn:Func}{c:Code}{us:Array Value}{G:Gh}{w:World}{B:Nat×Nat}{Q:Exit→St→Prop}{σ0:St}{R:Ending→World→Prop}(hf:P.funcs[f]? = some fn)(hb:fn.body=some c)(h:T B P fn.ntmps c Q σ0)
  (hR:Rel fn.ntmps G σ0 { tmps:=us++Array.replicate (fn.ntmps-us.size) undef,defers:=[] } w)
  (hQ:∀ e G' σ' a' w', Ex B G w G' w' → Rel fn.ntmps G' σ' a' w' → Q e σ' → e = .panic Qi9∧R (.panicked Qi9) w'):Calls P f us w R:=by
 refine callsIn_wide.1 (callsIn_of_wp_marks (F:=Fence.wide) (n:=0) hf hb trivial (wpIn_mono (h.out none ⟨w.heap.size,[]⟩ G _ w hR (.none rfl)) ?_));rintro e a' w' ⟨G', σ', hE,hR', hF', hq⟩;have key:∀ (Ds:List Nat) (w' : World),Ds.Nodup→Ex B G w G' w' → Rel fn.ntmps G' σ' a' w' → (∀ b ∈ Ds,w.heap.size≤b∧w'.heap[b]? = some (.deferred (some []))∧b ∉ G'.name∧∀ T ∈ G'.tok,¬ T.has b)→LeavesInM Fence.wide 0 P fn a'.tmps R (Ds.map Qmw) (.panicking Qi9) w' := by
  intro Ds
  induction Ds with
  | nil=>exact fun w' _ hE hR' _=>(hQ e G' σ' a' w' hE hR' hq).2
  | cons b Ds ih =>
   intro w' hnd hE hR' hD;obtain⟨d1,d2,d3,d4⟩:=hD b (by simp);have hnb:¬ G'.has b:=fun hh=>hh.elim d3 fun⟨T,hT,ht⟩=>d4 T hT ht
   have hk:Kept G'.has G'.com w' (w'.putObj b (.deferred none)):=Qhi _ d2 (Qt3 d2) hnb;refine⟨by simp,.inl ⟨b,_,rfl,run_takeDeferred d2,ih _ (List.nodup_cons.1 hnd).2 (hE.kept hk fun i hi=>World.putObj_heap_other (by omega)) (hR'.kept hk) fun i hi=>?_⟩⟩;obtain⟨k1,k2,k3⟩:=hD i (by simp[hi]);refine⟨k1,?_,k3⟩;rw[World.putObj_heap_other (fun(e:i=b)=>(List.nodup_cons.1 hnd).1 (e ▸ hi))];exact k2
 obtain⟨Ds,m1,m2,m3⟩:=hF'.marks;have hl:=key Ds w' m2 hE hR' m3;rw[List.append_nil] at m1;rw[← m1] at hl;obtain rfl:=(hQ e G' σ' a' w' hE hR' hq).1;exact hl
theorem CallPan.ofT{f:FuncId}{fn:Func}{c:Code}(hf:P.funcs[f]? = some fn)(hb:fn.body=some c)(hn:isFn P f=true){args:List D}(hN:args.length≤fn.ntmps){s s' : S}
  (hs:s'.heap.all (fun cs=>cs.all (D.lt s.heap.length s'.live.length))=true)
  (hn' : s'.heap.length=s.heap.length)
  (h:T (s.heap.length,s.live.length) P fn.ntmps c (fun e σ => ∃ τ,Le (s.heap.length,s.live.length) fn.ntmps σ τ ∧ (e = .panic Qi9∧EndR s.heap.length s.live.length s' .undef .undef τ.s)) ⟨Qxo args 0,s⟩):CallPan P f args s s' := by
 refine⟨hn,fun G w us hI hl hrel=>?_⟩;have hR:Rel fn.ntmps G ⟨Qxo args 0,s⟩ { tmps:=us++Array.replicate (fn.ntmps-us.size) undef,defers:=[] } w:=by
  refine⟨hI,fun t d hd=>?_,by simp; omega⟩;obtain⟨h1,h2⟩:=Qr1 args 0 t d hd;have hlt:t<args.length:=(List.getElem?_eq_some_iff.1 h1).1;have hlt2:t<us.size:=by omega
  refine⟨by simp; omega,?_⟩;refine hrel t d _ h1 ?_;simp only[Array.getD_eq_getD_getElem?,Array.getElem?_append_left hlt2,Array.getElem?_eq_getElem hlt2,Option.getD_some]
 have hln:G.name.length=s.heap.length:=hI.names;have hlt:G.tok.length=s.live.length:=by rw[← hI.live]; simp
 refine Q9j hf hb (T_up h fun e σ' hq=>hq) hR fun e G' σ' a' w' hE hR' hq=>?_
 obtain⟨he,⟨J,hJ0,h4,h5,h6⟩⟩:=hq;refine⟨he,?_⟩;unfold Qaj4 at hJ0;simp only[Bool.and_eq_true] at hJ0;obtain⟨⟨hJ1,hJ2⟩,hJ3⟩:=hJ0;have nJ:=Qez J hJ1;have bJ:=Qnf hJ2;have lT:G'.tok.length = σ'.s.live.length:=by have:=congrArg List.length hR'.inv.live; simpa using this
 have h7:=LeH.app h5 (LeH.refl (σ'.s.heap.drop s.heap.length));rw[List.take_append_drop] at h7;have hinv1:=Inv.le (h := σ'.s.heap) (live := σ'.s.live) hR'.inv h7;have hlen:(s'.heap.map fun cs=>cs.map (D.ren (List.range s.heap.length) J)).length=s.heap.length:=by rw[List.length_map]; exact hn'
 have hlJ:J.length=s'.live.length:=by rw[← h6]; simp
 have hnl:s.heap.length≤G'.name.length:=by rw[hinv1.names]; simp only[List.length_append,hlen]; omega
 have hinv2:Inv (G'.sub (List.range s.heap.length) J) ⟨s'.heap,s'.live⟩ w' := hinv1.sub (I:=List.range s.heap.length) (J:=J) List.nodup_range nJ (fun i hi=>by have:=List.mem_range.1 hi; simp only[List.length_append,hlen]; omega) bJ (by
  have:=Q6z (s'.heap.map fun cs=>cs.map (D.ren (List.range s.heap.length) J)) (σ'.s.heap.drop s.heap.length) [];rw[hlen] at this;exact this) h6 (by rw[List.length_range,hlJ]; exact hs)
 have hst:Stp G w (G'.sub (List.range s.heap.length) J) w' := Qae1 hE hln hlt hnl (fun j hj=>by rw[lT]; exact bJ j hj) (by simpa using hJ3);exact⟨undef,_,rfl,hst,hinv2,.undef⟩
def CallS(P:Program)(f:FuncId)(args:List D)(s:S){A C:Type}(t:A→D)(ss:A→S)(sp:C→S):A⊕C→Prop
 | .inl y=>CallOK P f args s (t y) (ss y)
 | .inr y=>CallPan P f args s (sp y)
theorem CallS.a{f:FuncId}{args:List D}{s:S}{A C:Type}{t:A→D}{ss:A→S}{sp:C→S}{y:A}(h:CallS P f args s t ss sp (.inl y)):CallOK P f args s (t y) (ss y):=h
theorem CallS.b{f:FuncId}{args:List D}{s:S}{A C:Type}{t:A→D}{ss:A→S}{sp:C→S}{y:C}(h:CallS P f args s t ss sp (.inr y)):CallPan P f args s (sp y):=h
def retS(tb:Tbl)(rs:List ResultVar)(n m:Nat){A C:Type}(t:A→D)(ss:A→S)(sp:C→S)(o:A⊕C)(e:Exit)(τ : St):Prop :=
 match e with
 | .panic ch=>∃ y,o = .inr y∧ch=Qi9∧EndR n m (sp y) .undef .undef τ.s
 | .normal=>∃ y,o = .inl y∧retR tb rs (EndR n m (ss y) (t y)) .normal τ
 | .ret=>∃ y,o = .inl y∧retR tb rs (EndR n m (ss y) (t y)) .ret τ
 | _=>False
theorem CallS.ofB(hm:P.follows .mixedOrders=true)(hT:TblOk P tb){f:FuncId}{fn:Func}{c:Code}(lv:List (Nat×List Nat))(hf:P.funcs[f]? = some fn)(hb:fn.body=some c)(hn:isFn P f=true){args:List D}(hN:args.length≤fn.ntmps){s:S}{A C:Type}{t:A→D}{ss:A→S}{sp:C→S}{o:A⊕C}
  (hr:∀ y,(t y).lt s.heap.length (ss y).live.length=true) (hs:∀ y,(ss y).heap.all (fun cs=>cs.all (D.lt s.heap.length (ss y).live.length))=true) (hn1:∀ y,(ss y).heap.length=s.heap.length)
  (hp:∀ y,(sp y).heap.all (fun cs=>cs.all (D.lt s.heap.length (sp y).live.length))=true) (hn2:∀ y,(sp y).heap.length=s.heap.length)
  (h:bwp (s.heap.length,s.live.length) P tb fn.ntmps lv c (fun e σ => ∃ τ,Le (s.heap.length,s.live.length) fn.ntmps σ τ ∧ retS tb fn.results.toList s.heap.length s.live.length t ss sp o e τ) ⟨Qxo args 0,s⟩):CallS P f args s t ss sp o:=by
 have hTT:=Qan hm hT c _ _ h;cases o with
 | inl y =>
  refine CallOK.ofT hT hf hb hn hN (hr y) (hs y) (hn1 y) (T_up hTT fun e σ ⟨τ,h1,h2⟩=>⟨τ,h1,τ,Le.refl _ _ _,?_⟩);cases e with
  | normal=>obtain⟨y', e,h3⟩:=h2; cases e; exact h3
  | ret=>obtain⟨y', e,h3⟩:=h2; cases e; exact h3
  | panic ch=>obtain⟨y', e,h3⟩:=h2; cases e
  | _=>exact h2.elim
 | inr y =>
  refine CallPan.ofT hf hb hn hN (hp y) (hn2 y) (T_up hTT fun e σ ⟨τ,h1,h2⟩=>⟨τ,h1,τ,Le.refl _ _ _,?_⟩);cases e with
  | normal=>obtain⟨y', e,h3⟩:=h2; cases e
  | ret=>obtain⟨y', e,h3⟩:=h2; cases e
  | panic ch=>obtain⟨y', e,h3,h4⟩:=h2; cases e; exact⟨by rw[h3],h4⟩
  | _=>exact h2.elim
theorem Qem{A C:Type}{x:A}{y:A⊕C}{d:D}{u:S}{n m:Nat}{t:A→D}{ss:A→S}(h:some (.inl x)=some y)(k:EndR n m (ss x) (t x) d u):∃ z,y = .inl z∧EndR n m (ss z) (t z) d u:=by cases h; exact⟨x,rfl,k⟩
theorem Qco{A C:Type}{x:C}{y:A⊕C}{u:S}{n m:Nat}{sp:C→S}(h:some (.inr x)=some y)(k:EndR n m (sp x) .undef .undef u):∃ z,y = .inr z∧Qi9=Qi9∧EndR n m (sp z) .undef .undef u:=by cases h; exact⟨x,rfl,rfl,k⟩
theorem Qbk{A C R:Type}{x:Option (A⊕C)}{f:A⊕C→Option R}{r:R}{g:FuncId}{args:List D}{s:S}(t:A→D)(ss:A→S)(sp:C→S){K:D→S→Prop}{KP:S→Prop}(h:(x>>=f)=some r)
  (hok:∀ y,x=some (.inl y)→CallOK P g args s (t y) (ss y)) (hpan:∀ y,x=some (.inr y)→CallPan P g args s (sp y))
  (k:∀ y,x=some (.inl y)→f (.inl y)=some r→K (t y) (ss y)) (kp:∀ y,x=some (.inr y)→f (.inr y)=some r→KP (sp y)) :
  (∃ r s', Q8n true P g args s r s' ∧ K r s')∨(∃ s', CallPan P g args s s' ∧ KP s'):=by
 cases hx:x with
 | none=>rw[hx] at h; cases h
 | some o =>
  rw[hx] at h;cases o with
  | inl y=>exact .inl ⟨t y,ss y,(hok y hx).g,k y hx h⟩
  | inr y=>exact .inr ⟨sp y,hpan y hx,kp y hx h⟩
theorem Qah4{A C R:Type}{x:Option (A⊕C)}{f:A⊕C→Option R}{r:R}{X Y:Prop}(h:(x>>=f)=some r)(k:∀ y,x=some (.inl y)→f (.inl y)=some r→X)(kp:∀ y,x=some (.inr y)→f (.inr y)=some r→Y):X∨Y:=by
 cases hx:x with
 | none=>rw[hx] at h; cases h
 | some o =>
  rw[hx] at h;cases o with
  | inl y=>exact .inl (k y hx h)
  | inr y=>exact .inr (kp y hx h)
end
theorem Q9k(l s:List UInt8)(hs:s.length<4294967281)(ha:s.all (fun b=>decide (b.toNat<128))=true):PCall Tryz.prog 49 [sV l,sV s] (.p (sV (Lib.trimLeftS l s))):=by
 refine PCall.ofCallsG (by kernel_rfl) (fun _ _ =>.p _ _ (.v _ rfl)) fun w us _ hs' h=>?_
 obtain⟨a,b,rfl⟩:=us2 hs';obtain⟨_,h0⟩:=h 0 _ a rfl rfl;obtain⟨_,h1⟩:=h 1 _ b rfl rfl;rw[Qn3 h0,Qn3 h1];exact Any.strings_TrimLeft_laid Tryz.lays161 (by kernel_rfl) ⟨l.toArray⟩ ⟨s.toArray⟩ w (by show s.toArray.size<_; simpa using hs) (ascii_of_all ha)
def digs(m:Nat):List UInt8 :=
 if m<10 then [UInt8.ofNat (48+m)] else digs (m / 10)++[UInt8.ofNat (48+m % 10)]
termination_by m
decreasing_by omega
theorem Qot(m:Nat)(h:m<10):digs m=[UInt8.ofNat (48+m)]:=by rw[digs,if_pos h]
theorem Qt5(m:Nat)(h:10≤m):digs m=digs (m / 10)++[UInt8.ofNat (48+m % 10)]:=by rw[digs,if_neg (by omega)]
theorem Q3d(m:Nat):0<(digs m).length:=by
 by_cases h:m<10
 ·rw[Qot m h]; simp
 ·rw[Qt5 m (by omega)]; simp
theorem Qx7(m:Nat):∀ k,m<10 ^ (k+1)→(digs m).length≤k+1:=by
 intro k
 induction k generalizing m with
 | zero=>intro h; rw[Qot m (by simpa using h)]; simp
 | succ k ih =>
  intro h;by_cases h10:m<10
  ·rw[Qot m h10]; simp
  ·rw[Qt5 m (by omega)];have:=ih (m / 10) (by rw[Nat.pow_succ] at h; omega);simp; omega
def Qd1(n:Int):List UInt8:=if n<0 then 45::digs n.natAbs else digs n.natAbs
def isD(c:UInt8):Bool:=48≤c.toNat&&c.toNat≤57
def dv(c:UInt8):Nat:=c.toNat-48
def val(l:List UInt8):Nat:=l.foldl (fun u c=>u*10+dv c) 0
theorem Qabh(l:List UInt8)(c:UInt8):val (l++[c])=val l*10+dv c:=by simp[val]
def Qqk(most:Nat):List UInt8→Nat→Option Nat
 | [],u=>some u
 | c::t,u=>if isD c&&decide (u≤(most-dv c) / 10) then Qqk most t (u*10+dv c) else none
theorem Qall{c:UInt8}(h:isD c=true):dv c≤9:=by
 simp[isD] at h; unfold dv; omega
theorem Qaj9(l:List UInt8):∀ u,u≤l.foldl (fun u c=>u*10+dv c) u:=by
 induction l with
 | nil=>intro u; exact Nat.le_refl _
 | cons c t ih=>intro u; simp only[List.foldl_cons]; exact Nat.le_trans (by omega) (ih _)
theorem Qr5(most:Nat)(hm:9≤most)(l:List UInt8):∀ u r,u≤most→(Qqk most l u=some r↔(l.all isD=true∧l.foldl (fun u c=>u*10+dv c) u=r∧r≤most)):=by
 induction l with
 | nil=>intro u r hu; simp[Qqk]; omega
 | cons c t ih =>
  intro u r hu;simp only[Qqk,List.all_cons,List.foldl_cons];by_cases hd:isD c=true
  ·have:=Qall hd;by_cases hle:u≤(most-dv c) / 10
   ·rw[if_pos (by simp[hd,hle]),ih _ _ (by omega)]; simp[hd]
   ·rw[if_neg (by simp[hle])];have hg:=Qaj9 t (u*10+dv c);simp only[reduceCtorEq,false_iff];rintro ⟨_,h2,h3⟩;omega
  ·rw[if_neg (by simp[hd])]; simp[hd]
theorem Qlf(m:Nat):(digs m).all isD=true:=by
 induction m using Nat.strongRecOn with
 | _ m ih =>
  by_cases h:m<10
  ·rw[Qot m h]; simp[isD]; omega
  ·rw[Qt5 m (by omega),List.all_append,ih _ (by omega)]; simp[isD]; omega
theorem Qx8(m:Nat):val (digs m)=m:=by
 induction m using Nat.strongRecOn with
 | _ m ih =>
  by_cases h:m<10
  ·rw[Qot m h]; simp[val,dv]; omega
  ·rw[Qt5 m (by omega),Qabh,ih _ (by omega)]; simp[dv]; omega
theorem Qy8(m:Nat)(h:1≤m):(digs m).head? ≠ some 48:=by
 induction m using Nat.strongRecOn with
 | _ m ih =>
  by_cases h' : m<10
  ·rw[Qot m h']; simp;intro e;have:=congrArg UInt8.toNat e;simp at this; omega
  ·rw[Qt5 m (by omega)];have hp:=Q3d (m / 10);have:=ih (m / 10) (by omega) (by omega);cases hd:digs (m / 10) with
   | nil=>rw[hd] at hp; simp at hp
   | cons a b=>rw[hd] at this; simpa using this
theorem Qac1(l:List UInt8)(h:l≠[]):∃ t c,l=t++[c]:=⟨l.dropLast,l.getLast h,(List.dropLast_concat_getLast h).symm⟩
theorem Qae7{c:UInt8}(h:isD c=true):UInt8.ofNat (48+dv c)=c:=by
 simp[isD] at h; unfold dv;have:48+(c.toNat-48)=c.toNat:=by omega
 rw[this]; simp
theorem Qy9:∀ (n:Nat) (l:List UInt8),l.length=n→l≠[]→l.all isD=true→(l.head? ≠ some 48∨l.length=1)→digs (val l)=l∧(l.head? ≠ some 48→1≤val l):=by
 intro n
 induction n with
 | zero=>intro l hl h; exact absurd (List.eq_nil_of_length_eq_zero hl) h
 | succ n ih =>
  intro l hl h ha hh;obtain⟨t,c,rfl⟩:=Qac1 l h;rw[List.all_append] at ha;have hac:isD c=true:=by simp at ha; exact ha.2
  have hat:t.all isD=true:=by simp at ha; simp; exact ha.1
  have hc9:=Qall hac;by_cases ht:t=[]
  ·subst ht;have e:val ([]++[c])=dv c:=by simp[val]
   rw[e,Qot _ (by omega),Qae7 hac];refine⟨rfl,fun h48=>?_⟩;simp at h48;simp[isD] at hac;unfold dv;have:c.toNat≠48:=fun e=>h48 (by rw[← UInt8.toNat_inj]; simpa using e)
   omega
  ·have h1:t.length=n:=by simp at hl; omega
   have hth:t.head? ≠ some 48:=by
    rcases hh with hh | hh
    ·cases t with
     | nil=>exact absurd rfl ht
     | cons a b=>simpa using hh
    ·simp at hh; exact absurd hh ht
   obtain⟨i1,i2⟩:=ih t h1 ht hat (.inl hth);have i3:=i2 hth;rw[Qabh,Qt5 _ (by omega),show(val t*10+dv c) / 10=val t by omega,i1,show(val t*10+dv c) % 10=dv c by omega,Qae7 hac];exact⟨rfl,fun _=>by omega⟩
def numP(l:List UInt8):Int×Bool :=
 let below:=l.head? == some 45
 let rest:=if below then l.tail else l
 if rest=[]∨(1<rest.length∧rest.head? = some 48)∨(below=true∧rest=[48]) then(0,false)
 else match Qqk (if below then 9223372036854775808 else 9223372036854775807) rest 0 with
  | some u=>(if below then -(u:Int) else u,true)
  | none=>(0,false)
def Qso(n:Int):Prop := -9223372036854775808≤n∧n≤9223372036854775807
theorem Q9l(m:Nat):digs m≠[]:=fun h=>by have:=Q3d m; rw[h] at this; simp at this
theorem Qw6(m:Nat)(c:UInt8)(hc:isD c=false):(digs m).head? ≠ some c:=by
 intro h;have ha:=Qlf m;cases hd:digs m with
 | nil=>rw[hd] at h; simp at h
 | cons a b=>rw[hd] at h ha; simp at h ha; rw[h,hc] at ha; simp at ha
theorem Q07(m:Nat)(h:(digs m).head? = some 48):m=0:=by
 rcases Nat.eq_zero_or_pos m with h0 | h0
 ·exact h0
 ·exact absurd h (Qy8 m h0)
theorem Q61(n:Int)(hn:Qso n):numP (Qd1 n)=(n,true):=by
 obtain⟨h0,h1⟩:=hn;rcases Int.lt_or_le n 0 with h | h
 ·have ht:Qd1 n=45::digs n.natAbs:=by rw[Qd1,if_pos h]
  rw[ht];simp only[numP,List.head?_cons,BEq.rfl,if_true,List.tail_cons];have hpos:1≤n.natAbs:=by omega
  rw[if_neg (by
   rintro (h' | ⟨_,h'⟩ | ⟨_,h'⟩)
   ·exact Q9l _ h'
   ·exact Qy8 _ hpos h'
   ·exact Qy8 _ hpos (by rw[h']; rfl))]
  rw[(Qr5 _ (by omega) (digs n.natAbs) 0 n.natAbs (by omega)).2 ⟨Qlf _,Qx8 _,by omega⟩];simp; omega
 ·have ht:Qd1 n=digs n.natAbs:=by rw[Qd1,if_neg (by omega)]
  rw[ht];have hb:((digs n.natAbs).head? == some 45)=false:=by
   simpa using Qw6 n.natAbs 45 (by decide)
  simp only[numP,hb,Bool.false_eq_true,if_false];rw[if_neg (by
   rintro (h' | ⟨h2,h'⟩ | ⟨h2,_⟩)
   ·exact Q9l _ h'
   ·rw[Q07 _ h', Qot 0 (by omega)] at h2; simp at h2
   ·cases h2)]
  rw[(Qr5 _ (by omega) (digs n.natAbs) 0 n.natAbs (by omega)).2 ⟨Qlf _,Qx8 _,by omega⟩];simp; omega
theorem Q62(l:List UInt8)(n:Int)(h:numP l=(n,true)):l=Qd1 n∧Qso n:=by
 unfold numP at h;by_cases hb:l.head? = some 45
 ·obtain⟨t,rfl⟩:∃ t,l=45::t:=by
   cases l with
   | nil=>simp at hb
   | cons a b=>simp at hb; exact⟨b,by rw[hb]⟩
  simp only[List.head?_cons,BEq.rfl,if_true,List.tail_cons] at h;split at h
  ·simp at h
  ·rename_i hne;split at h
   ·rename_i u hu;simp only[Prod.mk.injEq,and_true] at h;obtain⟨a1,a2,a3⟩:=(Qr5 _ (by omega) t 0 u (by omega)).1 hu;have htne:t≠[]:=fun e=>hne (.inl e)
    have hhead:t.head? ≠ some 48:=by
     intro e;by_cases hl1:1<t.length
     ·exact hne (.inr (.inl ⟨hl1,e⟩))
     ·cases t with
      | nil=>exact htne rfl
      | cons a b =>
       have:b=[]:=by simp at hl1; exact hl1
       subst this; simp at e; subst e;exact hne (.inr (.inr ⟨by simp,rfl⟩))
    obtain⟨b1,b2⟩:=Qy9 _ t rfl htne a1 (.inl hhead);have hv:val t=u:=a2;have:=b2 hhead;rw[hv] at b1 this;subst h;refine⟨?_,by unfold Qso; omega⟩;rw[Qd1,if_pos (by omega)];rw[show(-(u:Int)).natAbs=u by omega,b1]
   ·simp at h
 ·have hb' : (l.head? == some 45)=false:=by simpa using hb
  simp only[hb', Bool.false_eq_true,if_false] at h;split at h
  ·simp at h
  ·rename_i hne;split at h
   ·rename_i u hu;simp only[Prod.mk.injEq,and_true] at h;obtain⟨a1,a2,a3⟩:=(Qr5 _ (by omega) l 0 u (by omega)).1 hu;have htne:l≠[]:=fun e=>hne (.inl e)
    have hhead:l.head? ≠ some 48∨l.length=1:=by
     by_cases e:l.head? = some 48
     ·right;by_cases hl1:1<l.length
      ·exact absurd (.inr (.inl ⟨hl1,e⟩)) hne
      ·cases l with
       | nil=>exact absurd rfl htne
       | cons a b=>simp at hl1 ⊢; exact hl1
     ·exact .inl e
    obtain⟨b1,b2⟩:=Qy9 _ l rfl htne a1 hhead;have hv:val l=u:=a2;rw[hv] at b1;subst h;refine⟨?_,by unfold Qso; omega⟩;rw[Qd1,if_neg (by omega),Int.natAbs_natCast,b1]
   ·simp at h
theorem Qah5(c:Prop)[Decidable c](o:Option Nat)(f:Nat→Int){m:Int}(h:(if c then(0,false) else match o with | some u=>(f u,true) | none=>(0,false))=(m,false)):m=0:=by
 split at h
 ·cases h; rfl
 ·cases o<;>cases h; rfl
theorem Qac2(l:List UInt8)(h:∀ n,Qso n→l≠Qd1 n):numP l=(0,false):=by
 cases hp:numP l with
 | mk n b =>
  cases b with
  | true=>obtain⟨h1,h2⟩:=Q62 l n hp; exact absurd h1 (h n h2)
  | false =>
   have:n=0:=by
    exact Qah5 _ _ (fun u=>if l.head? == some 45 then -(u:Int) else u) hp
   rw[this]
theorem Qae8(n:Int)(hn:Qso n):1≤(Qd1 n).length∧(Qd1 n).length≤20:=by
 obtain⟨h0,h1⟩:=hn;have hp:=Q3d n.natAbs;have:=Qx7 n.natAbs 18 (by omega);unfold Qd1;split<;>(try simp)<;>omega
theorem Qah6(u:Nat):(((UInt8.ofNat (48+u % 10)).toNat:Nat):Int)=48+(u:Int) % 10:=by
 simp; omega
theorem Qalm {P : Program} (src dst e : TypeId) (hs : P.underlying src = some (.slice e)) (he : P.underlying e = some (.int .u8)) (hd : P.underlying dst = some .string)
   (x : Int) (y : UInt8) (hxy : x = y.toNat) (b c : Nat) (W : World) (h0 : W.cell? ⟨b, 0, none⟩ = some (.int .u8 x)) :
   (convert src dst (.slice (some ⟨b, 0, none⟩) 1 c)).run P W = .ok (.string ⟨#[y]⟩) W := by
  subst hxy
  have := run_convert_bytes_back (P := P) W src dst e ⟨b, 0, none⟩ c [y] hs he hd (by
    intro j hj
    have hj2 : j = 0 := by simp at hj; omega
    subst hj2
    simpa [Addr.add] using h0)
  exact this
theorem Qae9(a b:List UInt8):(⟨a.toArray⟩:ByteArray)++(⟨b.toArray⟩:ByteArray)=⟨(a++b).toArray⟩:=by
 rw[← Lib.mk_data (_++_)]; simp
set_option maxHeartbeats 800000 in
theorem Q18(m:Nat)(h:m<18446744073709551616)(w:World) :
  Calls Tryz.prog 101 #[.int .u64 m] w fun e w' => e = .returned (.string ⟨(digs m).toArray⟩)∧Below w.heap.size w w' := by
 go_enter Tryz.func101,Tryz.ntmps101
 go_wp2
 go_loopw [0,3] (fun n s wr=>∃ (u:Nat) (suf:List UInt8),u<18446744073709551616∧n = .int .u64 u∧s = .string ⟨suf.toArray⟩∧digs m=digs u++suf∧Below w.heap.size w wr) (fun n _ _=>(intOf n).toNat)
 case atStart=>exact⟨m,[],h,rfl,rfl,by simp,Below.refl _ _⟩
 case round =>
  obtain⟨u,suf,hu,rfl,rfl,hd,hb⟩:=hrel;have hsl:suf.length≤20:=by
   have e:=congrArg List.length hd;have:=Qx7 m 19 (by omega);simp at e; omega
  have HD:=Lib.hid hd; clear hd;have HB:=Lib.hid hb; clear hb;by_cases hlt:9<u
  ·have kc:=Qalm (P:=Tryz.prog) 33 9 5 Tryz.underlying33 Tryz.underlying5 Tryz.underlying9 (48+(u:Int) % 10) (UInt8.ofNat (48+u % 10)) (Qah6 u).symm
   go_wp2
   go_roundw
   case rel=>exact⟨u / 10,(48+UInt8.ofNat (u % 10))::suf,by omega,by simp,congrArg Value.string (Qae9 [_] suf),by rw[HD.out,Qt5 u (by omega)]; simp,HB.out.trans ((Below.refl _ _).alloc HB.out.size _)⟩
   case measure=>simp[intOf]; omega
  ·have kc:=Qalm (P:=Tryz.prog) 33 9 5 Tryz.underlying33 Tryz.underlying5 Tryz.underlying9 (48+(u:Int)) (UInt8.ofNat (48+u)) (by simp; omega)
   go_wp2
   go_ret
   refine⟨Qaey ?_,HB.out.trans ((Below.refl _ _).alloc HB.out.size _)⟩;rw[HD.out,Qot u (by omega)];rw[show UInt8.ofNat (48+u)=48+UInt8.ofNat u from by simp];exact Qae9 [_] suf
set_option maxHeartbeats 800000 in
theorem Qql(n:Int)(h0 : -9223372036854775808≤n)(h1:n≤9223372036854775807)(w:World) :
  Calls Tryz.prog 73 #[.int .i64 n] w fun e w' => e = .returned (.string ⟨(Qd1 n).toArray⟩)∧Below w.heap.size w w' := by
 rcases Int.lt_or_le n 0 with hn | hn
 ·obtain⟨m,rfl⟩:∃ m:Nat,n = -((m:Int)+1):=⟨(-n-1).toNat,by omega⟩;have ht:Qd1 (-((m:Int)+1))=45::digs (m+1):=by
   rw[Qd1,if_pos hn]; congr 2
  have hdg:=fun w=>Q18 (m+1) (by omega) w
  have hl:(digs (m+1)).length≤20:=Qx7 _ 19 (by omega);rw[ht]; clear ht;generalize digs (m+1)=D at hdg hl;have HG:=Lib.hid hdg; clear hdg
  go_enter Tryz.func73,Tryz.ntmps73
  go_wp2_with fail
  rw[show -(-((m:Int)+1)+1)+1=((m+1:Nat):Int) from by omega];refine(HG.out _).mono ?_;rintro e w' ⟨rfl,hb⟩
  go_wp2_with fail
  go_ret
  exact⟨Qaey (Qae9 [45] _),hb⟩
 ·obtain⟨m,rfl⟩:=Int.eq_ofNat_of_zero_le hn;have ht:Qd1 (m:Int)=digs m:=by
   rw[Qd1,if_neg (by omega),Int.natAbs_natCast]
  rw[ht]; clear ht;have hdg:=fun w=>Q18 m (by omega) w
  generalize digs m=D at hdg;have HG:=Lib.hid hdg; clear hdg
  go_enter Tryz.func73,Tryz.ntmps73
  go_wp2_with fail
  refine(HG.out _).mono ?_;rintro e w' ⟨rfl,hb⟩
  go_wp2_with fail
  go_ret
  exact⟨rfl,hb⟩
def Qng(below:Bool)(rest:List UInt8):Int×Bool :=
 if rest=[]∨(1<rest.length∧rest.head? = some 48)∨(below=true∧rest=[48]) then(0,false)
 else match Qqk (if below then 9223372036854775808 else 9223372036854775807) rest 0 with
  | some u=>(if below then -(u:Int) else u,true)
  | none=>(0,false)
theorem Qafa(l:List UInt8):numP l=Qng (Lib.hasPrefix l [45]) (Lib.trimPrefix l [45]):=by
 cases l with
 | nil=>simp[numP,Qng,Lib.hasPrefix,Lib.trimPrefix]
 | cons a t =>
  by_cases ha:a=45
  ·subst ha; simp[numP,Qng,Lib.hasPrefix,Lib.trimPrefix]; try rfl
  ·have hb:¬ (45:UInt8)=a:=fun e=>ha e.symm
   simp[numP,Qng,Lib.hasPrefix,Lib.trimPrefix,hb,ha]; try rfl
theorem Qabi(most:Nat)(rs:ByteArray)(k n:Nat)(h:k<rs.size):Qqk most (rs.data.toList.drop k) n =
  if isD rs[k]&&decide (n≤(most-dv rs[k]) / 10) then Qqk most (rs.data.toList.drop (k+1)) (n*10+dv rs[k]) else none:=by
 have h' : k<rs.data.toList.length:=by rw[← Qe0]; exact h
 rw[List.drop_eq_getElem_cons h']; rfl
theorem Qaka(u:Nat)(h:u≤9223372036854775808):wrap64 (IntKind.u64.wrap (-(u:Int))) = -(u:Int):=by
 simp[wrap64,IntKind.wrap,IntKind.bits,IntKind.signed];omega
theorem Qr6(most n:Nat)(h9:9≤most)(c:UInt8):(isD c&&decide (n≤(most-dv c) / 10))=decide ((48:Int)≤(c.toNat:Int)∧(c.toNat:Int)≤57∧(n:Int)≤((most:Int)-((c.toNat:Int)-48)) / 10):=by
 rw[Bool.eq_iff_iff]; simp only[isD,dv,Bool.and_eq_true,decide_eq_true_eq,Nat.le_div_iff_mul_le (show 0<10 by decide),Int.le_ediv_iff_mul_le (show(0:Int)<10 by decide)];omega
def badB(below:Bool)(rs:ByteArray):Bool:=rs.toList.isEmpty||(decide (1<(rs.size:Int))&&(if h:0<rs.size then((rs[0].toNat:Int)==48) else false))||(below&&rs.toList==[48])
theorem Qafb(below:Bool)(rs:ByteArray):badB below rs=(rs.data.toList.isEmpty||(decide (1<rs.data.toList.length)&&decide ((rs.data.toList.getD 0 0).toNat=48))||(below&&rs.data.toList==[48])):=by
 unfold badB;rw[Lib.toList_data];congr 2;by_cases h1:1<(rs.size:Int)
 ·have h0:0<rs.size:=by omega
  rw[dif_pos h0,Qw5,Qe0];rw[Qe0] at h1;have h2:1<rs.data.toList.length:=by omega
  rw[decide_eq_true h1,decide_eq_true h2];simp only[Bool.true_and];rw[Bool.eq_iff_iff]; simp; omega
 ·have h2:¬ 1<rs.data.toList.length:=by rw[← Qe0]; omega
  rw[decide_eq_false h1,decide_eq_false h2]; simp
theorem Qah7(below:Bool)(rs:ByteArray)(h:badB below rs=true):Qng below rs.data.toList=(0,false):=by
 rw[Qng,if_pos];rw[Qafb] at h;simp only[Bool.or_eq_true,Bool.and_eq_true,decide_eq_true_eq,List.isEmpty_iff,beq_iff_eq] at h;rcases h with (h | ⟨h1,h2⟩) | h
 ·exact .inl h
 ·refine .inr (.inl ⟨h1,?_⟩);cases hl:rs.data.toList with
  | nil=>rw[hl] at h1; simp at h1
  | cons a t=>rw[hl] at h2; simp at h2; simp[← UInt8.toNat_inj,h2]
 ·exact .inr (.inr h)
theorem Qafc(below:Bool)(rs:ByteArray)(h:badB below rs=false):Qng below rs.data.toList =
  match Qqk (if below then 9223372036854775808 else 9223372036854775807) rs.data.toList 0 with
  | some u=>(if below then -(u:Int) else u,true)
  | none=>(0,false):=by
 rw[Qng,if_neg];rw[Qafb] at h;rintro (h' | ⟨h1,h2⟩ | ⟨h1,h2⟩)
 ·simp[h'] at h
 ·cases hl:rs.data.toList with
  | nil=>rw[hl] at h1; simp at h1
  | cons a t =>
   rw[hl] at h2; simp at h2; subst h2;rw[hl] at h h1;simp at h1; simp[h1] at h
 ·simp[h1,h2] at h
set_option maxHeartbeats 4000000 in
theorem Q9m(below:Bool)(s rs:ByteArray)(hs:rs.size≤maxLen)(w:World)
  (hc:∀ w,Calls Tryz.prog 110 #[.string s,.string ⟨#[45]⟩] w fun e w' => e = .returned (.tuple #[.string rs,.bool below])∧w' = w) :
  Calls Tryz.prog 90 #[.string s] w fun e w' => e = .returned (.tuple #[.int .i64 (Qng below rs.data.toList).1,.bool (Qng below rs.data.toList).2])∧w=w' := by
 unfold maxLen at hs;have HC:=Lib.hid hc; clear hc;have hb1:=Qah7 below rs;have hb2:=Qafc below rs;have HB1:=Lib.hid hb1; clear hb1;have HB2:=Lib.hid hb2; clear hb2;cases below
 all_goals
  go_enter Tryz.func90,Tryz.ntmps90
  go_upto_region 2 with ((go_at_call 110; refine(HC.out _).mono ?_; rintro e w' ⟨rfl,rfl⟩))
 ·go_cut [33] (fun c wx=>c = .bool (badB false rs)∧wx=w')
  case first =>
   go_wp2_with fail
   all_goals
    go_meet
    refine⟨congrArg Value.bool ?_,rfl⟩;unfold badB
    first
     | (simp[*]; done)
     | (simp[*]; intros; omega)
     | (rw[show decide (1<(rs.size:Int))=false from decide_eq_false (by omega)]; simp)
  case rest =>
   obtain⟨rfl,rfl⟩:=hcut;cases hbad:badB false rs
   ·have hr:=HB2.out hbad;simp only[Bool.false_eq_true,↓reduceIte] at hr;have HR:=Lib.hid hr; clear hr
    go_wp2_with fail
    go_loop [7,39] (fun u i=>∃ (k n:Nat),k≤rs.size∧i = .int .i64 k∧u = .int .u64 n∧n≤9223372036854775807∧Qqk 9223372036854775807 rs.data.toList 0=Qqk 9223372036854775807 (rs.data.toList.drop k) n) (fun _ i=>rs.size-(intOf i).toNat)
    case atStart=>exact⟨0,0,by omega,rfl,rfl,by omega,by simp⟩
    case round =>
     obtain⟨k,n,hk,rfl,rfl,hn,hg⟩:=hrel;have HG:=Lib.hid hg; clear hg;by_cases hlt:k<rs.size
     ·have hstep:=Qabi 9223372036854775807 rs k n hlt;have HS:=Lib.hid hstep; clear hstep;generalize hck:rs[k]=c at HS;have hck2:rs[k]=c:=hck;clear hck;by_cases hgood:(48:Int)≤(c.toNat:Int)∧(c.toNat:Int)≤57∧(n:Int)≤(9223372036854775807-((c.toNat:Int)-48)) / 10
      ·obtain⟨g1,g2,g3⟩:=hgood
       go_wp2
       go_round
       case rel=>exact⟨k+1,n*10+dv c,by omega,by go_num,by congr 1; unfold dv; omega,by unfold dv; omega,by rw[HG.out,HS.out,if_pos (by rw[Qr6 _ _ (by omega)]; exact decide_eq_true ⟨g1,g2,by omega⟩)]⟩
       case measure=>simp[intOf]; omega
      ·have hbad:Qqk 9223372036854775807 rs.data.toList 0=none:=by
        rw[HG.out,HS.out,if_neg];rw[Qr6 _ _ (by omega)]; intro e; exact hgood (of_decide_eq_true e)
       have HB:=Lib.hid hbad; clear hbad
       go_wp2
       all_goals
        go_ret2
        exact⟨Qpf (by rw[HR.out,HB.out]) (by rw[HR.out,HB.out]),rfl⟩
     ·have hge:rs.size≤k:=by omega
      have hfin:Qqk 9223372036854775807 rs.data.toList 0=some n:=by
       rw[HG.out,List.drop_of_length_le (by rw[← Qe0]; exact hge)]; rfl
      have HB:=Lib.hid hfin; clear hfin
      go_wp2
      go_ret2
      exact⟨Qpf (by rw[HR.out,HB.out]) (by rw[HR.out,HB.out]),rfl⟩
   ·have HR:=Lib.hid (HB1.out hbad)
    go_wp2_with fail
    go_ret2
    exact⟨Qpf (by rw[HR.out]) (by rw[HR.out]),rfl⟩
 ·go_cut [33] (fun c wx=>c = .bool (badB true rs)∧wx=w')
  case first =>
   go_wp2_with fail
   all_goals
    go_meet
    refine⟨congrArg Value.bool ?_,rfl⟩;unfold badB
    first
     | (simp[*]; done)
     | (simp[*]; intros; omega)
     | (rw[show decide (1<(rs.size:Int))=false from decide_eq_false (by omega)]; simp)
  case rest =>
   obtain⟨rfl,rfl⟩:=hcut;cases hbad:badB true rs
   ·have hr:=HB2.out hbad;simp only[↓reduceIte] at hr;have HR:=Lib.hid hr; clear hr
    go_wp2_with fail
    go_loop [7,39] (fun u i=>∃ (k n:Nat),k≤rs.size∧i = .int .i64 k∧u = .int .u64 n∧n≤9223372036854775808∧Qqk 9223372036854775808 rs.data.toList 0=Qqk 9223372036854775808 (rs.data.toList.drop k) n) (fun _ i=>rs.size-(intOf i).toNat)
    case atStart=>exact⟨0,0,by omega,rfl,rfl,by omega,by simp⟩
    case round =>
     obtain⟨k,n,hk,rfl,rfl,hn,hg⟩:=hrel;have HG:=Lib.hid hg; clear hg;by_cases hlt:k<rs.size
     ·have hstep:=Qabi 9223372036854775808 rs k n hlt;have HS:=Lib.hid hstep; clear hstep;generalize hck:rs[k]=c at HS;have hck2:rs[k]=c:=hck;clear hck;by_cases hgood:(48:Int)≤(c.toNat:Int)∧(c.toNat:Int)≤57∧(n:Int)≤(9223372036854775808-((c.toNat:Int)-48)) / 10
      ·obtain⟨g1,g2,g3⟩:=hgood
       go_wp2
       go_round
       case rel=>exact⟨k+1,n*10+dv c,by omega,by go_num,by congr 1; unfold dv; omega,by unfold dv; omega,by rw[HG.out,HS.out,if_pos (by rw[Qr6 _ _ (by omega)]; exact decide_eq_true ⟨g1,g2,by omega⟩)]⟩
       case measure=>simp[intOf]; omega
      ·have hbad:Qqk 9223372036854775808 rs.data.toList 0=none:=by
        rw[HG.out,HS.out,if_neg];rw[Qr6 _ _ (by omega)]; intro e; exact hgood (of_decide_eq_true e)
       have HB:=Lib.hid hbad; clear hbad
       go_wp2
       all_goals
        go_ret2
        exact⟨Qpf (by rw[HR.out,HB.out]) (by rw[HR.out,HB.out]),rfl⟩
     ·have hge:rs.size≤k:=by omega
      have hfin:Qqk 9223372036854775808 rs.data.toList 0=some n:=by
       rw[HG.out,List.drop_of_length_le (by rw[← Qe0]; exact hge)]; rfl
      have HB:=Lib.hid hfin; clear hfin
      go_wp2
      go_ret2
      exact⟨Qpf ((Qaka n hn).trans (by rw[HR.out,HB.out])) (by rw[HR.out,HB.out]),rfl⟩
   ·have HR:=Lib.hid (HB1.out hbad)
    go_wp2_with fail
    go_ret2
    exact⟨Qpf (by rw[HR.out]) (by rw[HR.out]),rfl⟩
theorem Qac3(s:ByteArray)(hs:s.size≤maxLen)(w:World) :
  Calls Tryz.prog 90 #[.string s] w fun e w' => e = .returned (.tuple #[.int .i64 (numP s.data.toList).1,.bool (numP s.data.toList).2])∧w=w' := by
 have h:=Q9m (Lib.hasPrefix s.data.toList [45]) s ⟨(Lib.trimPrefix s.data.toList [45]).toArray⟩ (by
  have:=Lib.trimPrefix_le s.data.toList [45];rw[Qe0] at hs ⊢; simp only[]; omega) w (fun w=>Tryz.strings_CutPrefix s ⟨#[45]⟩ w)
 rw[Qafa];exact h
def Qnh(neg:Bool)(n:Int)(c:UInt8):Int:=if neg then wrap64 (wrap64 (10*n)-((c.toNat:Int)-48)) else wrap64 (wrap64 (10*n)+((c.toNat:Int)-48))
def Qu3(l:List UInt8):Int×Bool :=
 if l.length<1∨20<l.length then(0,false)
 else
  let neg:=l.head? == some 45
  let rest:=if neg then l.tail else l
  if rest.all isD then
   let n:=rest.foldl (Qnh neg) 0
   if Qd1 n=l then(n,true) else(0,false)
  else(0,false)
theorem Qwh(n:Int) : -9223372036854775808≤wrap64 n∧wrap64 n≤9223372036854775807:=by
 simp[wrap64]; omega
theorem Qaje(rs:ByteArray)(k:Nat)(h:k<rs.size):(rs.data.toList.drop k).all isD=(isD rs[k]&&(rs.data.toList.drop (k+1)).all isD):=by
 have h' : k<rs.data.toList.length:=by rw[← Qe0]; exact h
 rw[List.drop_eq_getElem_cons h']; rfl
theorem Qafd(neg:Bool)(rs:ByteArray)(k:Nat)(h:k<rs.size)(n:Int):(rs.data.toList.drop k).foldl (Qnh neg) n=(rs.data.toList.drop (k+1)).foldl (Qnh neg) (Qnh neg n rs[k]):=by
 have h' : k<rs.data.toList.length:=by rw[← Qe0]; exact h
 rw[List.drop_eq_getElem_cons h']; rfl
theorem Q3e(c:UInt8):isD c=decide ((48:Int)≤(c.toNat:Int)∧(c.toNat:Int)≤57):=by
 rw[Bool.eq_iff_iff]; simp[isD]; omega
set_option maxHeartbeats 4000000 in
theorem Q9n(s:ByteArray)(hs:s.size≤maxLen)(w:World) :
  Calls Tryz.prog 65 #[.string s] w fun e w' => e = .returned (.tuple #[.int .i64 (Qu3 s.data.toList).1,.bool (Qu3 s.data.toList).2])∧Below w.heap.size w w' := by
 unfold maxLen at hs;by_cases hlen:s.data.toList.length<1∨20<s.data.toList.length
 ·have hr:Qu3 s.data.toList=(0,false):=by rw[Qu3,if_pos hlen]
  rw[hr]; clear hr;rw[← Qe0] at hlen
  go_enter Tryz.func65,Tryz.ntmps65
  go_wp2_with fail
  all_goals (go_ret2; exact⟨rfl,Below.refl _ _⟩)
 ·have hl1:0<s.size:=by rw[Qe0]; omega
  have hl2:s.size≤20:=by rw[Qe0]; omega
  have hneg:(s.data.toList.head? == some 45)=decide ((s[0].toNat:Int)=45):=by
   rw[Qw5];cases hl:s.data.toList with
   | nil=>rw[Qe0,hl] at hl1; simp at hl1
   | cons a t=>rw[Bool.eq_iff_iff]; simp[← UInt8.toNat_inj]; omega
  have hr:Qu3 s.data.toList=(if(if(s.data.toList.head? == some 45) then s.data.toList.tail else s.data.toList).all isD then
   (if Qd1 ((if(s.data.toList.head? == some 45) then s.data.toList.tail else s.data.toList).foldl (Qnh (s.data.toList.head? == some 45)) 0)=s.data.toList then((if(s.data.toList.head? == some 45) then s.data.toList.tail else s.data.toList).foldl (Qnh (s.data.toList.head? == some 45)) 0,true) else(0,false)) else(0,false)):=by
   rw[Qu3,if_neg hlen]
  rw[hneg] at hr;by_cases h45:(s[0].toNat:Int)=45
  ·rw[decide_eq_true h45] at hr;simp only[↓reduceIte,← List.drop_one] at hr;have HR:=Lib.hid hr; clear hr;clear hneg hlen
   go_enter Tryz.func65,Tryz.ntmps65
   go_wp2_with fail
   go_loop [5,6] (fun n i=>∃ (k:Nat) (m:Int),k≤s.size∧i = .int .i64 k∧n = .int .i64 m ∧ -9223372036854775808≤m∧m≤9223372036854775807∧(s.data.toList.drop 1).all isD=(s.data.toList.drop k).all isD∧(s.data.toList.drop 1).foldl (Qnh true) 0=(s.data.toList.drop k).foldl (Qnh true) m) (fun _ i=>s.size-(intOf i).toNat)
   case atStart=>exact⟨1,0,by omega,rfl,rfl,by omega,by omega,rfl,rfl⟩
   case round =>
    obtain⟨k,m,hk,rfl,rfl,hm0,hm1,hal,hfo⟩:=hrel;have HA:=Lib.hid hal; clear hal;have HF:=Lib.hid hfo; clear hfo;by_cases hlt:k<s.size
    ·have HS1:=Lib.hid (Qaje s k hlt);have HS2:=Lib.hid (Qafd true s k hlt m);have hwr:=Qwh (wrap64 (10*m)-((s[k].toNat:Int)-48));have HW:=Lib.hid hwr; clear hwr;generalize hck:s[k]=c at HS1 HS2 HW;have hck2:s[k]=c:=hck;clear hck;by_cases hd:(48:Int)≤(c.toNat:Int)∧(c.toNat:Int)≤57
     ·obtain⟨g1,g2⟩:=hd
      go_wp2
      go_round
      case rel=>exact⟨k+1,_,by omega,by go_num,rfl,HW.out.1,HW.out.2,by rw[HA.out,HS1.out,Q3e,decide_eq_true ⟨g1,g2⟩]; rfl,by rw[HF.out,HS2.out]; rfl⟩
      case measure=>simp[intOf]; omega
     ·have hbad:(s.data.toList.drop 1).all isD=false:=by
       rw[HA.out,HS1.out,Q3e,decide_eq_false hd]; rfl
      have HB:=Lib.hid hbad; clear hbad
      go_wp2
      all_goals
       go_ret2
       exact⟨Qpf (by rw[HR.out,HB.out]; rfl) (by rw[HR.out,HB.out]; rfl),Below.refl _ _⟩
    ·have hge:s.size≤k:=by omega
     have hz:s.data.toList.drop k=[]:=List.drop_of_length_le (by rw[← Qe0]; exact hge);have hall:(s.data.toList.drop 1).all isD=true:=by rw[HA.out,hz]; rfl
     have hfin:(s.data.toList.drop 1).foldl (Qnh true) 0=m:=by rw[HF.out,hz]; rfl
     clear hz;have HB:=Lib.hid hall; clear hall;have HC:=Lib.hid hfin; clear hfin;by_cases hq:Qd1 m=s.data.toList
     ·have hqb:(Qd1 m==s.toList)=true:=by rw[Lib.toList_data]; simpa using hq
      have HQ:=Lib.hid hq; clear hq
      go_wp2_with fail
      refine(Qql m hm0 hm1 _).mono ?_;rintro e w' ⟨rfl,hb⟩
      go_wp2_with fail
      go_ret2
      exact⟨Qpf (by rw[HR.out,HB.out,HC.out,if_pos HQ.out]; rfl) (by rw[HR.out,HB.out,HC.out,if_pos HQ.out]; rfl),hb⟩
     ·have hqb:(Qd1 m==s.toList)=false:=by rw[Lib.toList_data]; simpa using hq
      have HQ:=Lib.hid hq; clear hq
      go_wp2_with fail
      refine(Qql m hm0 hm1 _).mono ?_;rintro e w' ⟨rfl,hb⟩
      go_wp2_with fail
      go_ret2
      exact⟨Qpf (by rw[HR.out,HB.out,HC.out,if_neg HQ.out]; rfl) (by rw[HR.out,HB.out,HC.out,if_neg HQ.out]; rfl),hb⟩
  ·rw[decide_eq_false h45] at hr;simp only[Bool.false_eq_true,↓reduceIte] at hr;have HR:=Lib.hid hr; clear hr;have hb45:((s[0].toNat:Int)==45)=false:=by simpa using h45
   clear hneg hlen
   go_enter Tryz.func65,Tryz.ntmps65
   go_wp2_with fail
   go_loop [5,6] (fun n i=>∃ (k:Nat) (m:Int),k≤s.size∧i = .int .i64 k∧n = .int .i64 m ∧ -9223372036854775808≤m∧m≤9223372036854775807∧s.data.toList.all isD=(s.data.toList.drop k).all isD∧s.data.toList.foldl (Qnh false) 0=(s.data.toList.drop k).foldl (Qnh false) m) (fun _ i=>s.size-(intOf i).toNat)
   case atStart=>exact⟨0,0,by omega,rfl,rfl,by omega,by omega,rfl,rfl⟩
   case round =>
    obtain⟨k,m,hk,rfl,rfl,hm0,hm1,hal,hfo⟩:=hrel;have HA:=Lib.hid hal; clear hal;have HF:=Lib.hid hfo; clear hfo;by_cases hlt:k<s.size
    ·have HS1:=Lib.hid (Qaje s k hlt);have HS2:=Lib.hid (Qafd false s k hlt m);have hwr:=Qwh (wrap64 (10*m)+((s[k].toNat:Int)-48));have HW:=Lib.hid hwr; clear hwr;generalize hck:s[k]=c at HS1 HS2 HW;have hck2:s[k]=c:=hck;clear hck;by_cases hd:(48:Int)≤(c.toNat:Int)∧(c.toNat:Int)≤57
     ·obtain⟨g1,g2⟩:=hd
      go_wp2
      go_round
      case rel=>exact⟨k+1,_,by omega,by go_num,rfl,HW.out.1,HW.out.2,by rw[HA.out,HS1.out,Q3e,decide_eq_true ⟨g1,g2⟩]; rfl,by rw[HF.out,HS2.out]; rfl⟩
      case measure=>simp[intOf]; omega
     ·have hbad:s.data.toList.all isD=false:=by
       rw[HA.out,HS1.out,Q3e,decide_eq_false hd]; rfl
      have HB:=Lib.hid hbad; clear hbad
      go_wp2
      all_goals
       go_ret2
       exact⟨Qpf (by rw[HR.out,HB.out]; rfl) (by rw[HR.out,HB.out]; rfl),Below.refl _ _⟩
    ·have hge:s.size≤k:=by omega
     have hz:s.data.toList.drop k=[]:=List.drop_of_length_le (by rw[← Qe0]; exact hge);have hall:s.data.toList.all isD=true:=by rw[HA.out,hz]; rfl
     have hfin:s.data.toList.foldl (Qnh false) 0=m:=by rw[HF.out,hz]; rfl
     clear hz;have HB:=Lib.hid hall; clear hall;have HC:=Lib.hid hfin; clear hfin;by_cases hq:Qd1 m=s.data.toList
     ·have hqb:(Qd1 m==s.toList)=true:=by rw[Lib.toList_data]; simpa using hq
      have HQ:=Lib.hid hq; clear hq
      go_wp2_with fail
      refine(Qql m hm0 hm1 _).mono ?_;rintro e w' ⟨rfl,hb⟩
      go_wp2_with fail
      go_ret2
      exact⟨Qpf (by rw[HR.out,HB.out,HC.out,if_pos HQ.out]; rfl) (by rw[HR.out,HB.out,HC.out,if_pos HQ.out]; rfl),hb⟩
     ·have hqb:(Qd1 m==s.toList)=false:=by rw[Lib.toList_data]; simpa using hq
      have HQ:=Lib.hid hq; clear hq
      go_wp2_with fail
      refine(Qql m hm0 hm1 _).mono ?_;rintro e w' ⟨rfl,hb⟩
      go_wp2_with fail
      go_ret2
      exact⟨Qpf (by rw[HR.out,HB.out,HC.out,if_neg HQ.out]; rfl) (by rw[HR.out,HB.out,HC.out,if_neg HQ.out]; rfl),hb⟩
theorem Qr7(x:Int):∃ k:Int,wrap64 x=x-18446744073709551616*k:=⟨(x+9223372036854775808) / 18446744073709551616,by simp only[wrap64]; omega⟩
theorem Q19(x k:Int):wrap64 (x-18446744073709551616*k)=wrap64 x:=by simp only[wrap64]; omega
theorem Q3f(x d:Int):wrap64 (wrap64 (10*wrap64 x)-d)=wrap64 (10*x-d):=by
 obtain⟨k,hk⟩:=Qr7 x;obtain⟨j,hj⟩:=Qr7 (10*wrap64 x);rw[hj,hk,← Q19 (10*x-d) (10*k+j)];congr 1; omega
theorem Q3g(x d:Int):wrap64 (wrap64 (10*wrap64 x)+d)=wrap64 (10*x+d):=by
 obtain⟨k,hk⟩:=Qr7 x;obtain⟨j,hj⟩:=Qr7 (10*wrap64 x);rw[hj,hk,← Q19 (10*x+d) (10*k+j)];congr 1; omega
theorem Qabj(W:Nat→Int)(g:Int→UInt8→Int)(hs:∀ v c,isD c=true→g (W v) c=W (v*10+dv c))(l:List UInt8)(h:l.all isD=true) :
  ∀ v:Nat,l.foldl g (W v)=W (l.foldl (fun u c=>u*10+dv c) v):=by
 induction l with
 | nil=>intro v; rfl
 | cons c t ih =>
  intro v;simp only[List.all_cons,Bool.and_eq_true] at h;simp only[List.foldl_cons];rw[hs v c h.1,ih h.2]
def Wneg(v:Nat):Int:=wrap64 (-(v:Int))
def Wpos(v:Nat):Int:=wrap64 (v:Int)
theorem Qah8(v:Nat)(c:UInt8)(h:isD c=true):Qnh true (Wneg v) c=Wneg (v*10+dv c):=by
 have hc:(10*(-(v:Int))-((c.toNat:Int)-48)) = -((v*10+dv c:Nat):Int):=by
  simp[isD] at h; unfold dv; omega
 unfold Wneg;rw[← hc,← Q3f,Qnh,if_pos rfl]
theorem Qah9(v:Nat)(c:UInt8)(h:isD c=true):Qnh false (Wpos v) c=Wpos (v*10+dv c):=by
 have hc:(10*(v:Int)+((c.toNat:Int)-48))=((v*10+dv c:Nat):Int):=by
  simp[isD] at h; unfold dv; omega
 unfold Wpos;rw[← hc,← Q3g,Qnh,if_neg (by simp)]
theorem Q63(n:Int)(h:Qso n):wrap64 n=n:=by
 obtain⟨a,b⟩:=h; simp only[wrap64]; omega
theorem Qaia(neg:Bool)(l:List UInt8)(n:Int)(h:Qso n):Qso (l.foldl (Qnh neg) n):=by
 induction l generalizing n with
 | nil=>exact h
 | cons c t ih =>
  refine ih _ ?_;unfold Qnh;split<;>exact Qwh _
theorem Qaib(l:List UInt8):Qu3 l=numP l:=by
 by_cases hx:∃ n,Qso n∧l=Qd1 n
 ·obtain⟨n,hn,rfl⟩:=hx;rw[Q61 n hn];obtain⟨l1,l2⟩:=Qae8 n hn;rw[Qu3,if_neg (by omega)];rcases Int.lt_or_le n 0 with h | h
  ·have ht:Qd1 n=45::digs n.natAbs:=by rw[Qd1,if_pos h]
   have hf:=Qabj Wneg (Qnh true) Qah8 (digs n.natAbs) (Qlf _) 0;have hv:(digs n.natAbs).foldl (fun u c=>u*10+dv c) 0=n.natAbs:=Qx8 _;have h0:Wneg 0=0:=by simp[Wneg,wrap64]
   rw[hv,h0,Wneg,show(-(n.natAbs:Int))=n by omega,Q63 n hn] at hf;have e:((Qd1 n).head? == some 45)=true:=by rw[ht]; rfl
   simp only[e,↓reduceIte];have et:(Qd1 n).tail=digs n.natAbs:=by rw[ht]; rfl
   rw[et,hf,Qlf];simp
  ·have ht:Qd1 n=digs n.natAbs:=by rw[Qd1,if_neg (by omega)]
   have hf:=Qabj Wpos (Qnh false) Qah9 (digs n.natAbs) (Qlf _) 0;have hv:(digs n.natAbs).foldl (fun u c=>u*10+dv c) 0=n.natAbs:=Qx8 _;have h0:Wpos 0=0:=by simp[Wpos,wrap64]
   rw[hv,h0,Wpos,show(n.natAbs:Int)=n by omega,Q63 n hn] at hf;have e:((Qd1 n).head? == some 45)=false:=by
    rw[ht]; simpa using Qw6 n.natAbs 45 (by decide)
   simp only[e,Bool.false_eq_true,↓reduceIte];rw[show(Qd1 n).all isD=true by rw[ht]; exact Qlf _,show(Qd1 n).foldl (Qnh false) 0=n by rw[ht]; exact hf];simp
 ·rw[Qac2 l (fun n hn e=>hx ⟨n,hn,e⟩)];rw[Qu3];by_cases h1:l.length<1∨20<l.length
  ·rw[if_pos h1]
  ·rw[if_neg h1];dsimp only;rw[if_neg (c:=Qd1 _=l) (fun e=>hx ⟨_,Qaia _ _ 0 (by unfold Qso; omega),e.symm⟩)];exact ite_self _
theorem Qaic(n:Int)(h0 : -9223372036854775808≤n)(h1:n≤9223372036854775807):PCall Tryz.prog 73 [iV n] (.p (sV (Qd1 n))):=by
 refine PCall.ofCallsG (by kernel_rfl) (fun _ _ =>.p _ _ (.v _ rfl)) fun w us _ hs h=>?_
 obtain⟨a,rfl⟩:=us1 hs;obtain⟨_,h0'⟩:=h 0 _ a rfl rfl;rw[Qae6 h0'];exact Qql n h0 h1 w
theorem Qac4(l:List UInt8)(hl:l.length≤9223372036854775807):PCall Tryz.prog 65 [sV l] (.tup [.p (iV (Qu3 l).1),.p (bV (Qu3 l).2)]):=by
 refine PCall.ofCallsG (R :=.tuple #[.int .i64 (Qu3 l).1,.bool (Qu3 l).2]) (by kernel_rfl) (fun _ _=>Qali rfl rfl) fun w us _ hs h=>?_
 obtain⟨a,rfl⟩:=us1 hs;obtain⟨_,h0'⟩:=h 0 _ a rfl rfl;rw[Qn3 h0'];refine(Q9n ⟨l.toArray⟩ (by show l.toArray.size≤9223372036854775807; simpa using hl) w).mono fun e w' h=>?_
 first | exact h | exact⟨h.1,Qwg h.2⟩
theorem Qafe(l:List UInt8)(hl:l.length≤9223372036854775807):PCall Tryz.prog 90 [sV l] (.tup [.p (iV (numP l).1),.p (bV (numP l).2)]):=by
 refine PCall.ofCallsG (R :=.tuple #[.int .i64 (numP l).1,.bool (numP l).2]) (by kernel_rfl) (fun _ _=>Qali rfl rfl) fun w us _ hs h=>?_
 obtain⟨a,rfl⟩:=us1 hs;obtain⟨_,h0'⟩:=h 0 _ a rfl rfl;rw[Qn3 h0'];refine(Qac3 ⟨l.toArray⟩ (by show l.toArray.size≤9223372036854775807; simpa using hl) w).mono fun e w' h=>?_
 exact⟨h.1,Qwg h.2.symm⟩
theorem Qaff(p:Value)(w:World) :
  Calls Tryz.prog 36 #[p,.bool true] w fun e w' => e = .returned (.tuple #[])∧w' = w:=by
 go_enter Tryz.func36,Tryz.ntmps36
 go_wp2
 exact bodyPost_end (results_none rfl _ _ _) rfl ⟨rfl,rfl⟩
theorem Qac5(p:Value)(w:World) :
  Calls Tryz.prog 36 #[p,.bool false] w fun e w' => e = .panicked Qi9∧w' = w:=by
 go_enter Tryz.func36,Tryz.ntmps36
 go_wp2
 exact⟨rfl,rfl,rfl⟩
theorem Q2a{E:Value→Ending}{r:D}{R:Value}(b:Bool)(x:D)(s:S)(hr:∀ G w,DRel G w r R)
  (h:∀ p w,Calls Tryz.prog 36 #[p,.bool b] w fun e w' => e=E R∧w' = w):CallX E Tryz.prog 36 [x,.p (bV b)] s r s:=by
 refine⟨by kernel_rfl,fun G w us hI hs hrel=>?_⟩;obtain⟨p,q,rfl⟩:=us2 hs;have h1:=hrel 1 _ q rfl rfl;have hq:q = .bool b:=by cases h1 with | p _ _ h1=>cases h1; rfl
 subst hq;exact(h p w).mono fun e w' ⟨he,hw⟩=>by
  subst hw;exact⟨R,G,he,.refl G _,hI,hr G _⟩
def Qxq(b:Bool):Unit⊕Unit:=if b=true then .inl () else .inr ()
theorem Qakb(b:Bool)(x:D)(s:S)(t:Unit→D)(ht:t () = .tup [])(o:Unit⊕Unit)(ho:Qxq b=o):CallS Tryz.prog 36 [x,.p (bV b)] s t (fun _=>s) (fun _=>s) o:=by
 subst ho;cases b with
 | true =>
  show CallOK _ _ _ _ (t ()) _;rw[ht];exact Q2a true x s (fun G w =>.tup [] #[] rfl (fun j c u hc=>by simp at hc)) Qaff
 | false =>
  exact Q2a false x s (R:=undef) (fun G w =>.undef) Qac5
section
variable {P:Program} {tb:Tbl}
theorem Qabk(hT:TblOk P tb){fn:Func}{C:Nat→Nat→Prop}{w w' : World}{G' : Gh}{σ' : St}{a' : Act}(hE:Ex (0,0) ⟨fun b o=>C b o∧b<w.heap.size,[],[]⟩ w G' w')(hR' : Rel fn.ntmps G' σ' a' w'){r:D}
  (hq:Qik tb σ' fn.results.toList fun ds=>match retD ds with | some d=>LeD d r | none=>False) :
  ∃ v,(results fn a'.tmps).run P w' = .ok v w' ∧ DRel ⟨fun b o=>C b o∨w.heap.size≤b,[],[]⟩ w' r v∧Below w.heap.size w w' := by
 obtain⟨ds,us', h1,h2,h3,h4⟩:=Qh2 hT hR' _ _ hq;split at h4
 ·rename_i d hd;obtain⟨k1,k2⟩:=Q2z h2 h3 hd;refine⟨if h:us'.toArray.size=1 then us'.toArray[0] else .tuple us'.toArray,?_,DRel.le ?_ h4,⟨hE.ext.os,hE.ext.tape,hE.ext.output,hE.ext.size,fun k hk=>hE.ext.old k hk (by simp) (by simp)⟩⟩
  ·unfold results;rw[Sem.run_bind,Array.mapM_eq_mapM_toList,Sem.run_map]
   erw [h1]
   rfl
  ·have hcom:∀ b o,G'.com b o→C b o∨w.heap.size≤b:=fun b o hc=>by
    rcases hE.ext.new b o hc with h | h | h | ⟨T,h,_⟩
    ·exact .inl h.1
    ·exact .inr h
    ·simp at h
    ·simp at h
   rcases k2 with ⟨x,rfl⟩ | ⟨xs,rfl⟩
   ·generalize (if h:us'.toArray.size=1 then us'.toArray[0] else Value.tuple us'.toArray)=q at k1;cases k1 with
    | p _ _ k1=>exact .p _ _ (k1.mono (Nat.le_refl _) fun b o u h1 h2=>⟨hcom b o h1,h2⟩)
   ·generalize (if h:us'.toArray.size=1 then us'.toArray[0] else Value.tuple us'.toArray)=q at k1;cases k1 with
    | tup _ vs l1 l2 =>
     refine .tup _ _ l1 (fun j c u hc hu=>?_);have:=l2 j c u hc hu;rw[List.getElem?_map] at hc;obtain⟨x,-,rfl⟩:=Option.map_eq_some_iff.1 hc;cases this with
     | p _ _ k1=>exact .p _ _ (k1.mono (Nat.le_refl _) fun b o u h1 h2=>⟨hcom b o h1,h2⟩)
 ·exact h4.elim
theorem PCall.ofW{f:FuncId}{fn:Func}{c:Code}(hf:P.funcs[f]? = some fn)(hb:fn.body=some c)(hn:isFn P f=true){args:List V}(hN:args.length≤fn.ntmps){r:D}
  (h:∀ (C:Nat→Nat→Prop) (w:World) (a:Act) (R:Ending→World→Prop),(∀ v w', DRel ⟨fun b o=>C b o∨w.heap.size≤b,[],[]⟩ w' r v→Below w.heap.size w w' → R (.returned v) w') →
   Rel fn.ntmps ⟨fun b o=>C b o∧b<w.heap.size,[],[]⟩ ⟨Qyt args 0,⟨[],[]⟩⟩ a w→a.defers=[]→c.wpIn Fence.wide 0 P (bodyPostM Fence.wide 0 P fn R) a w):PCall P f args r:=by
 refine⟨hn,fun C w us hgl hl hrel=>?_⟩;have hR:Rel fn.ntmps ⟨fun b o=>C b o∧b<w.heap.size,[],[]⟩ ⟨Qyt args 0,⟨[],[]⟩⟩ { tmps:=us++Array.replicate (fn.ntmps-us.size) undef,defers:=[] } w:=by
  refine⟨⟨fun b o h=>⟨h.2,by simp,by simp⟩,rfl,by simp,fun i b cs h=>by simp at h,rfl,fun t T b h=>by simp at h,fun T h=>by simp at h,hgl.mono fun b o u h1 h2=>⟨⟨h1,Qwx h2⟩,h2⟩⟩,fun t d hd=>?_,by simp; omega⟩;obtain⟨x,h1,h2,rfl⟩:=Qr0 args 0 t d hd;have hlt:t<args.length:=(List.getElem?_eq_some_iff.1 h1).1;have hlt2:t<us.size:=by omega
  refine⟨by simp; omega,.p x _ (DRel.lt ?_)⟩;refine hrel t x _ h1 ?_;simp only[Array.getD_eq_getD_getElem?,Array.getElem?_append_left hlt2,Array.getElem?_eq_getElem hlt2,Option.getD_some]
 exact callsIn_wide.1 (callsIn_of_wp_marks (F:=Fence.wide) (n:=0) hf hb trivial (h C w _ _ (fun v w' h1 h2=>⟨v,rfl,h1,h2⟩) hR rfl))
theorem Qu4{fn:Func}{a:Act}{G:Gh}{σ : St}{R:Ending→World→Prop}{db:List Deferred}{u:FrameMode}(hu:u ≠ .run){lo:Nat}{B:Nat×Nat}{G0:Gh}{w0:World}
  (h:∀ w', Ex B G0 w0 G w' → Rel fn.ntmps G σ a w' → LeavesInM Fence.wide 0 P fn a.tmps R db u w') {w:World} (hF:Fr none ⟨lo,db⟩ G a w) (hlo:w0.heap.size≤lo) (hE:Ex B G0 w0 G w) (hR:Rel fn.ntmps G σ a w):LeavesInM Fence.wide 0 P fn a.tmps R a.defers u w:=by
 have key:∀ (Ds:List Nat) (w' : World),Ds.Nodup→Ex B G0 w0 G w' → Rel fn.ntmps G σ a w' → (∀ b ∈ Ds,lo≤b∧w'.heap[b]? = some (.deferred (some []))∧b ∉ G.name∧∀ T ∈ G.tok,¬ T.has b)→LeavesInM Fence.wide 0 P fn a.tmps R (Ds.map Qmw++db) u w' := by
  intro Ds
  induction Ds with
  | nil=>exact fun w' _ hE hR' _=>h w' hE hR'
  | cons b Ds ih =>
   intro w' hnd hE hR' hD;obtain⟨d1,d2,d3,d4⟩:=hD b (by simp);have hnb:¬ G.has b:=fun hh=>hh.elim d3 fun⟨T,hT,ht⟩=>d4 T hT ht
   have hk:Kept G.has G.com w' (w'.putObj b (.deferred none)):=Qhi _ d2 (Qt3 d2) hnb;refine⟨hu,.inl ⟨b,_,rfl,run_takeDeferred d2,ih _ (List.nodup_cons.1 hnd).2 (hE.kept hk fun i hi=>World.putObj_heap_other (by omega)) (hR'.kept hk) fun i hi=>?_⟩⟩;obtain⟨k1,k2,k3⟩:=hD i (by simp[hi]);refine⟨k1,?_,k3⟩;rw[World.putObj_heap_other (fun(e:i=b)=>(List.nodup_cons.1 hnd).1 (e ▸ hi))];exact k2
 obtain⟨Ds,m1,m2,m3⟩:=hF.marks;have hl:=key Ds w m2 hE hR m3;rw[← m1] at hl;exact hl
def Qakc(hid:Nat):Code→Bool
 | .region id _ _=>id==hid
 | _=>false
def bwpH(B:Nat×Nat)(P:Program)(tb:Tbl)(N:Nat)(lv:List (Nat×List Nat))(hid:Nat):Code→(Exit→St→Prop)→(St→Prop)→St→Prop
 | .seq x y,Q,K,σ => match Qakc hid x with
  | true=>K σ
  | false=>bwp B P tb N lv x (fun e σ' => match e with | .normal=>bwpH B P tb N lv hid y Q K σ' | e=>Q e σ') σ
 | c,Q,_,σ => bwp B P tb N lv c Q σ
def Q9o(hid:Nat):Code→Code
 | .seq x y=>match Qakc hid x with
  | true =>.seq x y
  | false=>Q9o hid y
 | c=>c
theorem Qac6(hm:P.follows .mixedOrders=true)(hT:TblOk P tb){B:Nat×Nat}{N:Nat}{lv:List (Nat×List Nat)}{hid:Nat}{Post:Exit→Act→World→Prop}{rd:Option Nat}{lo:Lo}{G0:Gh}{w0:World}{Q:Exit→St→Prop}{K:St→Prop}
  (hQ:∀ e G' σ' a' w', Ex B G0 w0 G' w' → Rel N G' σ' a' w' → Fr rd lo G' a' w' → Q e σ' → Post e a' w') :
  ∀ (c:Code) (σ : St) (G:Gh) (a:Act) (w:World),bwpH B P tb N lv hid c Q K σ → Ex B G0 w0 G w→Rel N G σ a w→Fr rd lo G a w →
   (∀ G' σ' a' w', Ex B G0 w0 G' w' → Rel N G' σ' a' w' → Fr rd lo G' a' w' → K σ' → (Q9o hid c).wpIn (FW rd) 0 P Post a' w')→c.wpIn (FW rd) 0 P Post a w:=by
 have base:∀ (c:Code) (σ : St) (G:Gh) (a:Act) (w:World),bwp B P tb N lv c Q σ → Ex B G0 w0 G w→Rel N G σ a w→Fr rd lo G a w→c.wpIn (FW rd) 0 P Post a w:=fun c σ G a w h hE hR hF =>
  wpIn_mono ((Qan hm hT c _ _ h).out rd lo G a w hR hF) fun e a' w' ⟨G', σ', e1,r1,f1,q1⟩=>hQ e G' σ' a' w' (hE.trans e1) r1 f1 q1
 intro c
 induction c with
 | seq x y ihx ihy =>
  intro σ G a w h hE hR hF hK;unfold bwpH at h;unfold Q9o at hK;cases hx:Qakc hid x with
  | true =>
   rw[hx] at h hK;exact hK G σ a w hE hR hF h
  | false =>
   rw[hx] at h hK;refine wpIn_seq (wpIn_mono ((Qan hm hT x _ _ h).out rd lo G a w hR hF) fun e a' w' ⟨G', σ', e1,r1,f1,q1⟩=>?_);cases e with
   | normal=>exact ihy σ' G' a' w' q1 (hE.trans e1) r1 f1 hK
   | exit id=>exact hQ _ G' σ' a' w' (hE.trans e1) r1 f1 q1
   | goto l=>exact hQ _ G' σ' a' w' (hE.trans e1) r1 f1 q1
   | ret=>exact hQ _ G' σ' a' w' (hE.trans e1) r1 f1 q1
   | panic ch=>exact hQ _ G' σ' a' w' (hE.trans e1) r1 f1 q1
   | outgrown=>exact hQ _ G' σ' a' w' (hE.trans e1) r1 f1 q1
 | _=>intro σ G a w h hE hR hF hK; exact base _ σ G a w h hE hR hF
theorem Qac7(hT:TblOk P tb){B:Nat×Nat}{N id:Nat}{ops:Array Oper}{Q:Exit→St→Prop}{σ : St}(h:bwp B P tb N [] (.region id ops false) Q σ){rd:Option Nat}{G:Gh}{a:Act}{w:World}(hR:Rel N G σ a w) :
  (Code.region id ops false).wpIn (FW rd) 0 P (fun e a' w' => ∃ G' σ', Ex B G w G' w' ∧ Rel N G' σ' a' w' ∧ a'.defers=a.defers∧Q e σ') a w:=by
 have h:rwp P tb N [] id ops false (Q .normal) σ := h;unfold rwp at h;rw[Q2y] at h;have h:bOps true P tb N ops.toList (List.range ops.toList.length) σ fun σ' => Q .normal (keep none σ'):=h
 have hops:ops.toList.toArray=ops:=by simp
 refine wpIn_region ?_;have:=Qv8 hT (rd:=rd) (ops:=ops.toList) (Q:=fun e a' w' => ∃ G' σ', Ex B G w G' w' ∧ Rel N G' σ' a' w' ∧ a'.defers=a.defers∧Q e σ') (G0:=G) (w0:=w) (ds:=a.defers) (fun a' w' G' σ' hE hR' hd hK=>⟨G', _,hE,Qgl hR' _,hd,hK⟩) _ σ a w G (.refl B G w) hR rfl h;rw[hops] at this;simpa using this
theorem Qwi{G:Gh}{w:World}{a:Act}:EnvRel G w [] a:=fun t d h=>by simp at h
theorem Qdm{G:Gh}{w:World}{a:Act}{t:Nat}{d:D}{env:List (Nat×D)}(h:t<a.tmps.size∧DRel G w d (a.tmps.getD t undef))(k:EnvRel G w env a):EnvRel G w ((t,d)::env) a:=fun t' d' hl=>by
 rw[List.lookup_cons] at hl;split at hl
 ·rename_i he;cases hl;have:t' = t:=by simpa using he
  subst this;exact h
 ·exact k t' d' hl
end
def Q3h:Code→Code
 | .seq _ y=>Q3h y
 | c=>c
theorem Q9p(u0 u1 u2 u3 u4:Value)(w:World){R:Ending→FrameMode→World→Prop}(h:R (.returned (.tuple #[])) .returning w) :
  CallsDIn Fence.wide 0 Tryz.prog 15 #[u0,u1,u2,u3,u4] .returning w R:=by
 refine callsDIn_of_wpSIn Tryz.func15 rfl trivial fun c₀ cs hu=>?_
 apply wpSIn_seq;apply wpSIn_region;simp[wpOpsSIn,go_sem,recoverD,hu,Tryz.ntmps15,Exit.thenS];apply wpSIn_seq;apply wpSIn_seq;apply wpSIn_region;simp[wpOpsSIn,go_sem,Exit.thenS];refine wpSIn_cond (t:=true) (by simp[Act.eval,Array.replicate]) ?_;simp only[if_true];refine wpSIn_of_wpIn rfl (wpIn_ret ?_);cases c₀;simp_all [bodyPostS,results,Tryz.results15,Exit.thenS]
theorem Qaid(w:World):(Instr.typeAssert (.iface 47 (.agg #[])) 20 47 true).run Tryz.prog w = .ok (.tuple #[.agg #[],.bool true]) w:=by
 kernel_rfl
theorem Qac8(u0 u1 u2 u3 u4:Value)(w:World){R:Ending→FrameMode→World→Prop}
  (h5:∀ (a:Act) (w' : World),a.tmps.size=22→a.tmps[0]? = some u0→a.tmps[1]? = some u1→a.tmps[2]? = some u2→a.tmps[3]? = some u3→a.tmps[4]? = some u4→a.defers=[]→Below w.heap.size w w' →
   (Q3h (Tryz.f15.body.getD .skip)).wpIn Fence.wide 0 Tryz.prog (fun e a2 w2=>e = .normal∧a2.defers=[]∧R (.returned (.tuple #[])) (.panicking [{ v :=.iface 47 (.agg #[]),recovered:=true }]) w2) a w') :
  CallsDIn Fence.wide 0 Tryz.prog 15 #[u0,u1,u2,u3,u4] (.panicking Qi9) w R:=by
 refine callsDIn_of_wpSIn Tryz.func15 rfl trivial fun c₀ cs hu=>?_
 apply wpSIn_seq;apply wpSIn_region;simp[wpOpsSIn,go_sem,recoverD,hu,Qi9,Tryz.ntmps15,Exit.thenS];apply wpSIn_seq;apply wpSIn_seq;apply wpSIn_region;simp[wpOpsSIn,go_sem,Exit.thenS];refine wpSIn_cond (t:=false) (by simp[Act.eval,Array.replicate]) ?_;simp only[Bool.false_eq_true,if_false];refine wpSIn_of_wpIn rfl (wpIn_skip ?_);simp only[Exit.thenS];apply wpSIn_seq;apply wpSIn_seq;apply wpSIn_region;simp[wpOpsSIn,go_sem,Exit.thenS,Qaid];apply wpSIn_seq;apply wpSIn_region;simp[wpOpsSIn,go_sem,Exit.thenS];refine wpSIn_cond (t:=false) (by simp[Act.eval,Array.replicate]) ?_;simp only[Bool.false_eq_true,if_false];refine wpSIn_of_wpIn rfl (wpIn_skip ?_);simp only[Exit.thenS];refine wpSIn_of_wpIn rfl (wpIn_mono (h5 _ _ ?_ ?_ ?_ ?_ ?_ ?_ rfl ?_) ?_)
 ·simp
 ·simp
 ·simp
 ·simp
 ·simp
 ·simp
 ·exact(Below.refl _ w).alloc (Nat.le_refl _) _
 rintro e a2 w2 ⟨rfl,hd,hr⟩;refine⟨hd,.panicking [{ v :=.iface 47 (.agg #[]),recovered:=true }],rfl,.tuple #[],?_,hr⟩;exact results_none rfl _ _ _
def seqR:Code→Code
 | .seq _ y=>y
 | c=>c
theorem Q9q(a:Act)(w:World)(hs:a.tmps.size=35){Post:Exit→Act→World→Prop} (h:(seqR (Q9o 5 (Tryz.f7.body.getD .skip))).wpIn Fence.wide 0 Tryz.prog Post
  { tmps:=a.tmps.setIfInBounds 20 (.func (.func 15) #[] #[a.tmps.getD 6 undef,a.tmps.getD 1 undef,a.tmps.getD 2 undef,a.tmps.getD 3 undef,a.tmps.getD 4 undef]),defers:={ target :=.fn (.func 15) #[a.tmps.getD 6 undef,a.tmps.getD 1 undef,a.tmps.getD 2 undef,a.tmps.getD 3 undef,a.tmps.getD 4 undef],args := #[] }::a.defers } w) :
  (Q9o 5 (Tryz.f7.body.getD .skip)).wpIn Fence.wide 0 Tryz.prog Post a w:=by
 refine wpIn_seq (wpIn_region ?_);obtain⟨X,hX⟩:∃ X,X=seqR (Q9o 5 (Tryz.f7.body.getD .skip)):=⟨_,rfl⟩;rw[← hX] at h;simp[hs] at h;rw[hX] at h;simp[wpOpsIn,go_sem,hs];exact h
def parQ (r:D) (e:Exit) (τ : St):Prop:=match e with
 | .ret=>Qik tb τ Tryz.f7.results.toList fun ds=>match retD ds with | some d=>LeD d r | none=>False
 | .panic ch=>ch=Qi9 ∧ τ.env.lookup 2=some (.ptr 1 0) ∧ τ.env.lookup 3=some (.ptr 2 0) ∧ τ.env.lookup 4=some (.ptr 3 0) ∧ τ.s.heap.length=6 ∧ τ.s.live.length=0 ∧
  bwp (6,0) Tryz.prog tb 22 [] (Q3h (Tryz.f15.body.getD .skip)) (fun e υ => e = .normal∧Qik tb ⟨[(2,.ptr 1 0),(3,.ptr 2 0),(4,.ptr 3 0)],υ.s⟩ Tryz.f7.results.toList fun ds=>match retD ds with | some d=>LeD d r | none=>False)
   ⟨[(0,.ptr 5 0),(1,.ptr 0 0),(2,.ptr 1 0),(3,.ptr 2 0),(4,.ptr 3 0)],τ.s⟩
 | _=>False
def parK (lv:List (Nat×List Nat)) (r:D) (σ : St):Prop :=
 σ.env.lookup 6=some (.ptr 5 0) ∧ σ.env.lookup 1=some (.ptr 0 0) ∧ σ.env.lookup 2=some (.ptr 1 0) ∧ σ.env.lookup 3=some (.ptr 2 0) ∧ σ.env.lookup 4=some (.ptr 3 0) ∧ σ.s.heap.length=6 ∧ σ.s.live.length=0 ∧
  bwp (6,0) Tryz.prog tb 35 lv (seqR (Q9o 5 (Tryz.f7.body.getD .skip))) (parQ r) ⟨[(2,.ptr 1 0),(3,.ptr 2 0),(4,.ptr 3 0),(6,.ptr 5 0)],σ.s⟩
theorem Qafg{p0:List UInt8}{r:D}{lv:List (Nat×List Nat)}
  (h:bwpH (0,0) Tryz.prog tb 35 lv 5 (Tryz.f7.body.getD .skip) (retQ tb Tryz.f7.results.toList fun d=>LeD d r) (parK lv r) ⟨Qyt [sV p0] 0,⟨[],[]⟩⟩):PCall Tryz.prog 7 [sV p0] r:=by
 refine PCall.ofW Tryz.func7 rfl (by kernel_rfl) (Nat.le_of_ble_eq_true rfl) fun C w a R hRR hR hd=>?_
 refine Qac6 (rd:=none) (lo:=⟨w.heap.size,[]⟩) (w0:=w) mixed tbOk (Q:=retQ tb Tryz.f7.results.toList fun d=>LeD d r) (K:=parK lv r) (fun e G' σ' a' w' hE hR' hF' hq=>?_) _ _ _ a w h (.refl _ _ w) hR (.none hd) ?_
 ·have key:∀ (hq:Qik tb σ' Tryz.f7.results.toList fun ds=>match retD ds with | some d=>LeD d r | none=>False),LeavesInM Fence.wide 0 Tryz.prog Tryz.f7 a'.tmps R a'.defers .returning w' := fun hq =>
   Qu4 (u :=.returning) (by simp) (fun w3 hE3 hR3=>by
    obtain⟨v,h1,h2,h3⟩:=Qabk tbOk hE3 hR3 hq;exact⟨v,h1,hRR v w3 h2 h3⟩) hF' (Nat.le_refl _) hE hR'
  cases e with
  | normal=>exact key hq
  | ret=>exact key hq
  | _=>exact hq.elim
 ·rintro G1 σ1 a1 w1 hE1 hR1 hF1 ⟨k6,k1,k2,k3,k4,hl,hv,hb⟩;have v6:=hR1.env 6 _ k6;have v1:=hR1.env 1 _ k1;have v2:=hR1.env 2 _ k2;have v3:=hR1.env 3 _ k3;have v4:=hR1.env 4 _ k4;refine Q9q a1 w1 hR1.size ?_;obtain⟨Ds0,m1,m2,m3⟩:=hF1.marks;rw[List.append_nil] at m1;rw[m1];generalize hu6:a1.tmps.getD 6 undef=u6 at v6 ⊢;generalize hu1:a1.tmps.getD 1 undef=u1 at v1 ⊢;generalize hu2:a1.tmps.getD 2 undef=u2 at v2 ⊢;generalize hu3:a1.tmps.getD 3 undef=u3 at v3 ⊢;generalize hu4:a1.tmps.getD 4 undef=u4 at v4 ⊢;have hn1:G1.name.length=6:=hR1.inv.names.trans hl;have ht1:G1.tok.length=0:=by have:=congrArg List.length hR1.inv.live; simp at this; omega
  obtain⟨d,hdd⟩:∃ d:Deferred,d={ target :=.fn (.func 15) #[u6,u1,u2,u3,u4],args := #[] }:=⟨_,rfl⟩;rw[← hdd];generalize hfv:(Value.func (Fn.func 15) #[] #[u6,u1,u2,u3,u4])=fv;have ek:∀ t,t≠20→(a1.tmps.setIfInBounds 20 fv).getD t undef=a1.tmps.getD t undef:=fun t ht=>by
   simp only[Array.getD_eq_getD_getElem?,Array.getElem?_setIfInBounds,if_neg (fun e:20=t=>ht e.symm)]
  have es:∀ {t:Nat},t<a1.tmps.size→t<(a1.tmps.setIfInBounds 20 fv).size:=fun h=>by simpa using h
  have hRr:Rel Tryz.f7.ntmps G1 ⟨[(2,.ptr 1 0),(3,.ptr 2 0),(4,.ptr 3 0),(6,.ptr 5 0)],σ1.s⟩ { tmps:=a1.tmps.setIfInBounds 20 fv,defers:=d::Ds0.map Qmw } w1 :=
   ⟨hR1.inv,Qdm ⟨es v2.1,by rw[ek 2 (by decide),hu2]; exact v2.2⟩ (Qdm ⟨es v3.1,by rw[ek 3 (by decide),hu3]; exact v3.2⟩ (Qdm ⟨es v4.1,by rw[ek 4 (by decide),hu4]; exact v4.2⟩ (Qdm ⟨es v6.1,by rw[ek 6 (by decide),hu6]; exact v6.2⟩ Qwi))),by simpa using hR1.size⟩
  have hFr:Fr none ⟨w1.heap.size,d::Ds0.map Qmw⟩ G1 { tmps:=a1.tmps.setIfInBounds 20 fv,defers:=d::Ds0.map Qmw } w1:=⟨⟨[],rfl,List.nodup_nil,fun _ h=>(nomatch h)⟩,fun _ h=>(nomatch h),Nat.le_refl _⟩;refine wpIn_mono ((Qan mixed tbOk _ _ _ hb).out none ⟨w1.heap.size,d::Ds0.map Qmw⟩ G1 _ w1 hRr hFr) ?_;rintro e a2 w2 ⟨G2,σ2,hE2,hR2,hF2,hq2⟩;have fin:∀ (G4:Gh) (τ : St) (w4:World),Ex (6,0) G1 w1 G4 w4→Rel Tryz.f7.ntmps G4 τ a2 w4→(Qik tb τ Tryz.f7.results.toList fun ds=>match retD ds with | some d=>LeD d r | none=>False) →
    LeavesInM Fence.wide 0 Tryz.prog Tryz.f7 a2.tmps R (Ds0.map Qmw) .returning w4:=fun G4 τ w4 hE4 hR4 hq=>by
   refine Qu4 (a:={ a2 with defers:=Ds0.map Qmw }) (lo:=w.heap.size) (db:=[]) (σ := τ) (u :=.returning) (B:=(0,0)) (w0:=w) (by simp) (fun w5 hE5 hR5=>?_) ⟨⟨Ds0,(List.append_nil _).symm,m2,fun b hb=>⟨(m3 b hb).1,hE4.ext.stays (m3 b hb).2.1 (m3 b hb).2.2.1 (m3 b hb).2.2.2⟩⟩,fun _ h=>(nomatch h),Nat.le_trans hF1.size hE4.ext.size⟩ (Nat.le_refl _) (hE1.trans (hE4.le (Nat.zero_le _) (Nat.zero_le _))) ⟨hR4.inv,hR4.env,hR4.size⟩;obtain⟨v,h1,h2,h3⟩:=Qabk tbOk hE5 hR5 hq;exact⟨v,h1,hRR v w5 h2 h3⟩
  have inv0:∀ w3:World,(invoke d.target d.args).run Tryz.prog w3 = .ok (.enter 15 #[u6,u1,u2,u3,u4]) w3:=fun w3=>by subst hdd; simp[go_sem]
  cases e with
  | ret =>
   refine Qu4 (u :=.returning) (B:=(6,0)) (by simp) (fun w3 hE3 hR3=>?_) hF2 (Nat.le_refl _) hE2 hR2;refine⟨by simp,.inr ⟨fun h=>(nomatch h),_,_,15,#[u6,u1,u2,u3,u4],by rw[hdd],inv0 w3,fun _ _=>trivial,?_⟩⟩;exact Q9p u6 u1 u2 u3 u4 w3 (fin G2 σ2 w3 hE3 hR3 hq2)
  | panic ch =>
   obtain⟨rfl,l2,l3,l4,hl2,hv2,hc⟩:=hq2;refine Qu4 (u :=.panicking Qi9) (B:=(6,0)) (by simp) (fun w3 hE3 hR3=>?_) hF2 (Nat.le_refl _) hE2 hR2;refine⟨by simp,.inr ⟨fun h=>(nomatch h),_,_,15,#[u6,u1,u2,u3,u4],by rw[hdd],inv0 w3,fun _ _=>trivial,?_⟩⟩;refine Qac8 u6 u1 u2 u3 u4 w3 fun a w' hsz t0 t1 t2 t3 t4 hd' hbel=>?_
   have hI3:=hR3.inv;have hk3:=Qwc hI3 hbel;have hEb:Ex (6,0) G2 w3 G2 w' := Qaa9 hI3 hbel;have hst:Stp G1 w1 G2 w' := (hE3.trans hEb).stp (by omega) (by omega);have hn2:G2.name.length=6:=hI3.names.trans hl2;have ht2:G2.tok.length=0:=by have:=congrArg List.length hI3.live; simp at this; omega
   have eg:∀ {t:Nat} {u:Value},a.tmps[t]? = some u→a.tmps.getD t undef=u:=fun h=>by simp only[Array.getD_eq_getD_getElem?,h,Option.getD_some]
   have hRc:Rel 22 G2 ⟨[(0,.ptr 5 0),(1,.ptr 0 0),(2,.ptr 1 0),(3,.ptr 2 0),(4,.ptr 3 0)],σ2.s⟩ a w' :=
    ⟨hI3.kept hk3,Qdm ⟨by omega,by rw[eg t0]; exact v6.2.mono hst⟩ (Qdm ⟨by omega,by rw[eg t1]; exact v1.2.mono hst⟩ (Qdm ⟨by omega,by rw[eg t2]; exact v2.2.mono hst⟩ (Qdm ⟨by omega,by rw[eg t3]; exact v3.2.mono hst⟩ (Qdm ⟨by omega,by rw[eg t4]; exact v4.2.mono hst⟩ Qwi)))),hsz⟩
   refine wpIn_mono (Qac7 (rd:=none) tbOk hc hRc) ?_;rintro e a3 w4 ⟨G4,σ4,hE4,hR4,hd4,rfl,hq4⟩;refine⟨rfl,hd4.trans hd', ?_⟩;have hE5:Ex (6,0) G2 w3 G4 w4:=hEb.trans hE4;have hst5:Stp G2 w3 G4 w4:=hE5.stp (by omega) (by omega);have x2:=hR3.env 2 _ l2;have x3:=hR3.env 3 _ l3;have x4:=hR3.env 4 _ l4;exact fin G4 ⟨[(2,.ptr 1 0),(3,.ptr 2 0),(4,.ptr 3 0)],σ4.s⟩ w4 (hE3.trans hE5) ⟨hR4.inv,Qdm ⟨x2.1,x2.2.mono hst5⟩ (Qdm ⟨x3.1,x3.2.mono hst5⟩ (Qdm ⟨x4.1,x4.2.mono hst5⟩ Qwi)),hR3.size⟩ hq4
  | _=>exact hq2.elim
end Go.Proofs.YtagokkpnfceidaaGreatDoor
end
