/- The proof's texts, part 7 of 10: the walks by a logic in which data are by value, the plain laws, and at the end the law, for every input. -/
import Derived.Test.YtfgegilhjlnohaaMgCallsMany6
import Derived.Shelf.RegionOpenPlain
import Derived.Lib.Strings
import Derived.Lib.Walk
import Derived.Lib.Builder
import Derived.Lib.UnsafeStr
import Derived.Laws.Externs
import Derived.Shelf.Small.Bits
import Derived.Shelf.Small.Strs
import Derived.Shelf.Strconv.Itoa0
import Derived.Shelf.Strings.Search1
import Derived.Shelf.Strings.Search2
import Derived.Shelf.Strings.Search3
import Derived.Shelf.LaysM
import Derived.Shelf.Strings.Shaped
import Derived.Shelf.Strings.Prefix
import Derived.Ground.Names2Prog
import Derived.Shelf.Slices.Clone
import Derived.Shelf.Slices.CompactS
import Derived.Shelf.Slices.Delete
import Derived.Shelf.Slices.Cells
import Derived.Shelf.Slices.In.SortNone
import Derived.Shelf.Slices.Empties
import Derived.Ground.SlgnProg
import Derived.Shelf.SlicesE.Clone
import Derived.Test.YtfgegilhjlnohaaProg
import Derived.Shelf.Slices.In.SortAlone
import Derived.Shelf.Slices.In.CompactS
import Derived.Sort.EveryDepth
import Derived.Below
import Derived.Laws.Bits
import Derived.Deep.DeepCutAuto
import Derived.Deep.CutRange

section
set_option linter.unusedVariables false
namespace Go.Proofs.Ytfgegilhjlnohaa
open Go.RowKit
theorem RelL.of_le {xs ys:List V} (h:LeL xs ys):RelL xs ys:=fun C w us hu hr=>⟨hu.trans h.1,fun j y u hy hu=>by
 obtain⟨x,hx⟩:=getLen h.1 hy
 exact(hr j x u hx hu).le (h.2 j x y hx hy)⟩
def b2s (l:List Int):Option (List UInt8):=if l.all (fun n=>decide (0≤n∧n≤255))=true then some (l.map fun n=>UInt8.ofNat n.toNat) else none
theorem Qym {R:Type} {l:List Int} {f:List UInt8→Option R} {r:R} {lv:List Nat} {K:D→List Nat→Prop} (h:(b2s l>>=f)=some r) (k:∀ m,b2s l=some m→f m=some r→K (.p (.v (strOf m))) lv) :
  ∃ m:List UInt8,l.map (cNum .u8)=m.map byteV∧∃ d' live,LeD (.p (.v (strOf m))) d' ∧ live=lv∧K d' live:=by
 refine Qaj h fun m hm hf=>?_
 have hk:=k m hm hf
 refine⟨m,?_,_,_,.refl _,rfl,hk⟩
 unfold b2s at hm
 split at hm
 ·rename_i hl
  cases hm
  rw[List.map_map]
  refine List.map_congr_left fun n hn=>?_
  have:=List.all_eq_true.1 hl n hn
  simp only[decide_eq_true_eq] at this
  obtain⟨N,rfl⟩:∃ N:Nat,n=(N:Int):=⟨n.toNat,by omega⟩
  have hN:N≤255:=by omega
  simp only[Function.comp,cNum,nV,byteV,Int.toNat_natCast,UInt8.toNat_ofNat']
  rw[Nat.mod_eq_of_lt (by omega)]
 ·cases hm
def s2b (l:List UInt8):List Int:=l.map fun x=>(x.toNat:Int)
theorem Qwt (a:List Int) (b:List UInt8):a.map (cNum .u8)++b.map byteV=(a++s2b b).map (cNum .u8):=by
 rw[List.map_append]
 unfold s2b
 rw[List.map_map]
 rfl
theorem Quv {R:Type} {bytes:Nat} {a:List Int} {b:List UInt8} {sz tk e:Nat} {f:List Int→Option R} {r:R} {lv:List Nat} {K:D→List Nat→Prop} (h:(appL bytes a (s2b b)>>=f)=some r) (hl:lv[tk]? = some (a.map (cNum .u8)).length)
  (k:∀ o,appL bytes a (s2b b)=some o→f o=some r→K (.own tk e sz (o.map (cNum .u8))) (lv.set tk (o.map (cNum .u8)).length)) :
  lv[tk]? = some (a.map (cNum .u8)).length∧(((a.map (cNum .u8)).length+b.length)*bytes≤140737488355328∧(a.map (cNum .u8)).length+b.length≤9223372036854775807) ∧
   ∃ d' live,LeD (.own tk e sz (a.map (cNum .u8)++b.map byteV)) d' ∧ live=lv.set tk (a.map (cNum .u8)++b.map byteV).length∧K d' live:=by
 refine Qaj h fun o ho hf=>?_
 have hk:=k o ho hf
 unfold appL at ho
 split at ho
 ·rename_i hc
  cases ho
  rw[Qwt,List.length_map]
  simp only[s2b,List.length_map] at hc
  exact⟨by rw[List.length_map] at hl; exact hl,hc,_,_,.refl _,rfl,hk⟩
 ·cases ho
def rgP:Code→List Nat
 | .rangeFunc _ ps _ _=>ps.toList
 | _=>[]
def rgA:Code→Code
 | .rangeFunc _ _ a _=>a
 | _ =>.skip
def rgB:Code→Code
 | .rangeFunc _ _ _ b=>b
 | _ =>.skip
section
variable {P:Program}
theorem Qqq {k m N:Nat} {ps:List Nat} {asn body:Code} {env:Env} {Q:Exit→St→Prop} {α : Type} {c : α → List V} {x : α} {r:List α} {s:S}
  (h:T (k,m) P N asn (fun e σ1=>e = .normal∧T (k,m) P N body (fun e σ2=>∃ s', Le (k,m) N ⟨[],σ2.s⟩ ⟨[],s'⟩∧s'.heap.length=k∧s'.live.length=m ∧
   match e with
   | .normal=>RL k m P N ps asn body env Q (r.map c) s'
   | .ret=>Q .ret ⟨env,s'⟩
   | .exit i=>Q (.exit i) ⟨env,s'⟩
   | _=>False) σ1) ⟨putP ps (c x) env,s⟩):RL k m P N ps asn body env Q ((x::r).map c) s:=h
theorem Quw {k m N:Nat} {ps:List Nat} {asn body:Code} {env:Env} {Q:Exit→St→Prop} {α : Type} {c : α → List V} {s:S} (h:Q .normal ⟨env,s⟩):RL k m P N ps asn body env Q (([]:List α).map c) s:=h
def Stop (B:Nat×Nat) (N:Nat) (xs:List (List V)) (σ : St):Prop:=∃ s', Le B N σ ⟨[],s'⟩∧s'.heap.length=B.1∧s'.live.length=B.2∧s'.live[0]? = some (xs.length+1)
def Qs (B:Nat×Nat) (N:Nat) (xs:List (List V)) (J:Exit→St→Prop) (e:Exit) (σ : St):Prop:=J e σ ∨ (e = .ret∧Stop B N xs σ)
theorem env0 {B:Nat×Nat} {N:Nat} {env:Env} {s:S}:Le B N ⟨env,s⟩ ⟨[],s⟩:=⟨fun G a w hR=>⟨G,.refl B G w,⟨hR.inv,fun t d h=>by simp at h,hR.size⟩⟩⟩
theorem le01 {N:Nat} {σ : St} {n:Nat} (h : σ.s.live[0]? = some n):Le (0,1) N σ ⟨[],⟨[],[n]⟩⟩:=by
 obtain⟨env,s⟩ := σ
 refine env0.trans (Le.tow 0 1 rfl .nil .nil ?_ (Nat.le_refl _) (Nat.le_refl _) rfl)
 cases hs:s.live with
 | nil=>simp[hs] at h
 | cons a l=>simp[hs] at h; simp[h]
theorem Qx6 {N:Nat} {xs:List (List V)} {σ : St} (h : σ.s.live[0]? = some (xs.length+1)):Stop (0,1) N xs σ := ⟨_,le01 h,rfl,rfl,rfl⟩
theorem Qux {N:Nat} {xs:List (List V)} {e:Exit} {σ : St} (he:e = .normal∨e = .ret) (h : σ.s.live[0]? = some (xs.length+1)):∃ τ,Le (0,1) N σ τ ∧ IEnd N xs e τ := ⟨_,le01 h,.inr ⟨he,.refl _ _ _⟩⟩
theorem Qwu {α O:Type} {c : α → List V} {N:Nat} {xs pre:List (List V)} {e:Exit} {σ : St} {l:List α} {y o2:O} (h:some ([],y)=some (l,o2)) (hx:xs=pre++(l.map c++[])) (he:e = .normal∨e = .ret) (hl : σ.s.live[0]? = some pre.length):∃ τ,Le (0,1) N σ τ ∧ IEnd N xs e τ := by
 cases h
 have:xs.length=pre.length:=by rw[hx]; simp
 refine⟨_,le01 hl,.inl ⟨he,?_⟩⟩
 rw[this]
 exact .refl _ _ _
theorem sndI {α O:Type} {l:List α} {y o2:O} (h:some (([]:List α),y)=some (l,o2)):some y=some o2:=by cases h; rfl
theorem liveQ {α O:Type} {c : α → List V} {xs pre gq post:List (List V)} {l:List α} {y o2:O} {L L' : List Nat} (h:some ([],y)=some (l,o2)) (hx:xs=pre++(l.map c++post)) (hq:xs=gq++post) (hl:L=pre.length::L'):L=gq.length::L' := by
 cases h
 have e1:xs.length=pre.length+post.length:=by rw[hx]; simp
 have e2:xs.length=gq.length+post.length:=by rw[hq]; simp
 rw[hl,show pre.length=gq.length by omega]
theorem joinS {B:Nat×Nat} {N:Nat} {xs:List (List V)} {J G:Exit→St→Prop} (k:∀ e σ,J e σ → ∃ τ,Le B N σ τ ∧ G e τ) (s:∀ s' : S,s'.heap.length=B.1→s'.live.length=B.2→s'.live[0]? = some (xs.length+1)→G .ret ⟨[],s'⟩):∀ e σ,Qs B N xs J e σ → ∃ τ,Le B N σ τ ∧ G e τ := fun e σ h=>by
 rcases h with h | ⟨rfl,s', h1,h2,h3,h4⟩
 ·exact k e σ h
 ·exact⟨_,h1,s s' h2 h3 h4⟩
theorem Qwv {α O:Type} {c : α → List V} {xs pre post:List (List V)} {x : α} {m:Option (List α × O)} {l:List α} {o2:O} {t:Nat} {ds:List D} {vs:List V} {s:S} {K:D→S→Prop}
  (h:(m>>=fun q=>some (x::q.1,q.2))=some (l,o2)) (hx:xs=pre++(l.map c++post)) (hl:LeL vs (c x)) (hu:unps ds=some vs) (hlive:s.live[t]? = some pre.length)
  (k1:∀ l', m=some (l', o2)→xs=(pre++[c x])++(l'.map c++post)→K (.p (.v (.bool true))) ⟨s.heap,s.live.set t (pre++[c x]).length⟩) (k2:K (.p (.v (.bool false))) ⟨s.heap,s.live.set t (xs.length+1)⟩) :
  true=true∧P=P∧aYield t xs ds s K:=by
 obtain⟨q,hm,hq⟩:=Option.bind_eq_some_iff.1 h
 cases hq
 have e:xs=(pre++[c x])++(q.1.map c++post):=by rw[hx]; simp
 refine⟨rfl,rfl,pre.length,c x,vs,hlive,?_,hu,.of_le hl,?_,k2⟩
 ·rw[hx]; simp
 ·have:=k1 q.1 hm e
  rw[List.length_append] at this
  exact this
theorem Qmz {α O R:Type} {c : α → List V} {xs pre post:List (List V)} {m:Option (List α × O)} {f:List α × O→Option (List α × R)} {l:List α} {o2:R} {φ : Prop}
  (h:(m>>=fun o=>f o>>=fun q=>some (o.1++q.1,q.2))=some (l,o2)) (hx:xs=pre++(l.map c++post))
  (k:∀ o l2 gq,m=some o→f o=some (l2,o2)→xs=pre++(o.1.map c++(l2.map c++post))→xs=gq++(l2.map c++post) → φ) : φ := by
 obtain⟨o,ho,hf⟩:=Option.bind_eq_some_iff.1 h
 obtain⟨q,hq,he⟩:=Option.bind_eq_some_iff.1 hf
 cases he
 exact k o q.1 (pre++o.1.map c) ho hq (by rw[hx]; simp) (by rw[hx]; simp)
theorem Le.env0 {B:Nat×Nat} {N:Nat} (σ : St):Le B N σ ⟨[],σ.s⟩:=⟨fun G _ w hR=>⟨G,.refl B G w,⟨hR.inv,fun t d h=>by simp at h,hR.size⟩⟩⟩
theorem Qy8 {α R:Type} {l:List α} {n:Int} {len:Nat} {c : α → V} {te:TI} {cs:List V} {f : α → Option R} {r:R} {s:S} {K:D→S→Prop} (h:(idx l n>>=f)=some r) (hc:cs=l.map c) (hl:l.length=len) (hz:te.size=1) (ha:isAggD te.d=false)
  (k:∀ x,idx l n=some x→f x=some r→K (.p (c x)) s):0≤n∧n<(len:Int)∧aPart te (.p (.agg cs)) (n.toNat*te.size) s K:=by
 refine Qaj h fun x hx hf=>?_
 have hk:=k x hx hf
 unfold idx at hx
 split at hx
 ·rename_i hi
  have hlt:=(List.getElem?_eq_some_iff.1 hx).1
  refine⟨hi,by omega,?_⟩
  subst hc
  unfold aPart
  simp only[dcells,ha,hz,Nat.mul_one]
  rw[List.getElem?_map,List.getElem?_map,hx]
  exact hk
 ·cases hx
end
theorem Qqr {α R:Type} {l:List α} {i:Int} {c c' : α → List V} {f : α → Option R} {r:R} {sz tk v:Nat} {lv:List Nat} {K:List V→Prop} (h:(idx l i>>=f)=some r) (hl:lv[tk]? = some v) (hc:∀ x,c x=c' x) (hs:∀ x,(c' x).length=sz) (hz:0<sz) (k:∀ x,idx l i=some x→f x=some r→K (c' x)) :
  lv[tk]? = some v∧∃ cell,0≤i∧(l.map c)[i.toNat]? = some cell∧cell.length=sz∧0<sz∧K cell:=⟨hl,Qew h hc hs hz k⟩
theorem Qww {α R:Type} {bytes:Nat} {a b:List α} {c : α → List V} {fs:List (List V)} {sz tk v:Nat} {f:List α → Option R} {r:R} {lv:List Nat} {K:Nat→List (List V)→Prop} (h:(appL bytes a b>>=f)=some r) (hf:LeLL fs (b.map c)) (hs:∀ x,(c x).length=sz)
  (hl:lv[tk]? = some v) (k:∀ o,appL bytes a b=some o→f o=some r→K (v+1) (o.map c)) :
  lv[tk]? = some v∧((∀ x ∈ fs,x.length=sz)∧((a.map c).length+fs.length)*bytes≤140737488355328∧(a.map c).length+fs.length≤9223372036854775807)∧∃ v', v<v' ∧ ∃ es', LeLL (a.map c++fs) es' ∧ K v' es' := by
 refine Qaj h fun o ho hk=>?_
 obtain⟨h1,h2,h3,-⟩:=appMap ho hf hs
 exact⟨hl,h1,_,Nat.lt_succ_self v,_,h2,k o ho hk⟩
theorem Qx7 {α R:Type} {bytes:Nat} {a b:List α} {c : α → List V} {fs:List (List V)} {sz tk v:Nat} {f:List α → Option R} {r:R} {lv:List Nat} {K:Nat→List (List V)→Prop} (h:(appL bytes a b>>=f)=some r) (hf:LeLL fs (b.map c)) (hs:∀ x,(c x).length=sz)
  (hl:lv[tk]? = some v) (hv:v=a.length+1) (hb:0<b.length) (k:∀ o,appL bytes a b=some o→f o=some r→K (o.length+1) (o.map c)) :
  lv[tk]? = some v∧((∀ x ∈ fs,x.length=sz)∧((a.map c).length+fs.length)*bytes≤140737488355328∧(a.map c).length+fs.length≤9223372036854775807)∧∃ v', v<v' ∧ ∃ es', LeLL (a.map c++fs) es' ∧ K v' es' := by
 refine Qaj h fun o ho hk=>?_
 obtain⟨h1,h2,h3,-⟩:=appMap ho hf hs
 have h4:o.length=a.length+b.length:=by
  have:=h2.1
  have h5:=hf.1
  simp only[List.length_append,List.length_map] at this h5
  omega
 exact⟨hl,h1,_,by omega,_,h2,k o ho hk⟩
theorem Qx8 {α R:Type} {bytes:Nat} {a b:List α} {c : α → List V} {es fs:List (List V)} {sz:Nat} {f:List α → Option R} {r:R} {K:List (List V)→Prop} (h:(appL bytes a b>>=f)=some r) (he:LeLL es (a.map c)) (hf:LeLL fs (b.map c)) (hs:∀ x,(c x).length=sz) (hcl:a.length=0∨0<b.length)
  (k:∀ o,appL bytes a b=some o→f o=some r→K (o.map c)) :
  (es.length=0∨0<fs.length)∧(∀ x ∈ es,x.length=sz)∧((∀ x ∈ fs,x.length=sz)∧(es.length+fs.length)*bytes≤140737488355328∧es.length+fs.length≤9223372036854775807)∧∃ es', LeLL (es++fs) es' ∧ K es' := by
 obtain⟨h1,h2,h3,d', live,-⟩:=Qy6 (e:=0) (lv:=[]) (f:=f) (r:=r) (K:=fun _ _=>True) h he hf hs hcl fun _ _ _=>trivial
 refine Qaj h fun o ho hk=>?_
 have h5:LeLL (es++fs) (o.map c):=by
  unfold appL at ho
  split at ho
  ·cases ho; rw[List.map_append]; exact .app he hf
  ·cases ho
 exact⟨h1,h2,h3,_,h5,k o ho hk⟩
end Go.Proofs.Ytfgegilhjlnohaa
end

section
namespace Go.Proofs.Ytfgegilhjlnohaa
open Go.RowKit
abbrev mx:Nat:=9223372036854775807
@[simp] theorem Qb9 {α : Type} (l:List α) (i:Nat):idx l (i:Int)=l[i]? := by
 unfold idx
 rw[if_pos (by omega)]
 rfl
theorem Qtu {α : Type} (l:List α) (n:Nat):idx l (OfNat.ofNat n:Int)=l[n]? := Qb9 l n
@[simp] theorem idx_0 {α : Type} (l:List α):idx l 0=l[0]? := Qb9 l 0
@[simp] theorem idx_1 {α : Type} (l:List α):idx l 1=l[1]? := Qb9 l 1
@[simp] theorem Qad {α β : Type} (x : α) (f : α → Option β):(some x>>=f)=f x:=rfl
theorem wr_in {n:Int} (h1 : -9223372036854775808≤n) (h2:n≤9223372036854775807):wr n=n:=w64 h1 h2
theorem Qb0 {i:Nat} (h:i<9223372036854775807):wr ((i:Int)+1)=((i+1:Nat):Int):=by rw[wr_in (by omega) (by omega)]; rfl
theorem Qlo {α : Type} {bytes:Nat} {a b:List α} (h:(a.length+b.length)*bytes≤140737488355328) (h2:a.length+b.length≤9223372036854775807):appL bytes a b=some (a++b):=by
 unfold appL; rw[if_pos ⟨h,h2⟩]
theorem Qwx {α : Type} {l:List α} {lo hi:Int} (h1:0≤lo) (h2:lo≤hi) (h3:hi≤l.length):cutL l lo hi=some ((l.take hi.toNat).drop lo.toNat):=by
 unfold cutL; rw[if_pos ⟨h1,h2,h3⟩]
theorem Qhl {p:Prop} [Decidable p] (h:p):need p=some ():=by unfold need; rw[if_pos h]
theorem getE {α : Type} {l:List α} {i:Nat} (h:i<l.length):l[i]? = some l[i]:=List.getElem?_eq_getElem h
theorem ltI (a b:Nat):decide ((a:Int)<(b:Int))=decide (a<b):=by
 congr 1; exact propext Int.ofNat_lt
theorem upto {α : Type} {l : List α} {φ : Nat → Prop} (h0 : φ l.length) (h : ∀ i, i < l.length → φ (i + 1) → φ i) : ∀ i, i ≤ l.length → φ i := by
  have key : ∀ n i, l.length - i = n → i ≤ l.length → φ i := by
    intro n
    induction n with
    | zero => intro i h1 h2; have : i = l.length := by omega
              subst this; exact h0
    | succ n ih => intro i h1 h2; exact h i (by omega) (ih (i + 1) (by omega) (by omega))
  exact fun i hi => key _ i rfl hi
theorem dropE {α : Type} {l:List α} {i:Nat} (h:i<l.length):l.drop i=l[i]::l.drop (i+1):=List.drop_eq_getElem_cons h
end Go.Proofs.Ytfgegilhjlnohaa
end

section
namespace Go.Proofs
open Go.Shelf
def Try.lays137_ren:Go.Shelf.Ren:=⟨fun | 137=>75 | 217=>77 | 266=>82 | n=>n,fun | 9=>9 | 5=>5 | 3=>3 | n=>n,fun | n=>n⟩
theorem Try.lays137:Go.Proofs.Lays.n137 Try.prog Try.lays137_ren:={
 mixed:=by kernel_rfl
 f137:=Try.func75.trans (congrArg some (by kernel_rfl))
 f217:=Try.func77.trans (congrArg some (by kernel_rfl))
 f266:=Try.func82.trans (congrArg some (by kernel_rfl))
 t3:=Try.underlying3
 a3:=Try.isAgg3
 z3:=Try.sizeOf3
 v3:=Try.zeroValue3
 t5:=Try.underlying5
 a5:=Try.isAgg5
 z5:=Try.sizeOf5
 v5:=Try.zeroValue5
 t9:=Try.underlying9
 a9:=Try.isAgg9
 z9:=Try.sizeOf9
 v9:=Try.zeroValue9 }
open Go.RowKit in
theorem Try.strings_IndexByte (s:ByteArray) (c:Int) (w:World) :
  Calls Try.prog 75 #[.string s,.int .u8 c] w fun e w' => e = .returned (.int .i64 (Lib.indexByte s.data.toList c.toNat.toUInt8))∧w' = w:=Any.strings_IndexByte Try.lays137 s c w
def Try.lays217_ren:Go.Shelf.Ren:=⟨fun | 217=>77 | 266=>82 | n=>n,fun | 9=>9 | 5=>5 | 3=>3 | n=>n,fun | n=>n⟩
theorem Try.lays217:Go.Proofs.Lays.n217 Try.prog Try.lays217_ren:={
 mixed:=by kernel_rfl
 f217:=Try.func77.trans (congrArg some (by kernel_rfl))
 f266:=Try.func82.trans (congrArg some (by kernel_rfl))
 t3:=Try.underlying3
 a3:=Try.isAgg3
 z3:=Try.sizeOf3
 v3:=Try.zeroValue3
 t5:=Try.underlying5
 a5:=Try.isAgg5
 z5:=Try.sizeOf5
 v5:=Try.zeroValue5
 t9:=Try.underlying9
 a9:=Try.isAgg9
 z9:=Try.sizeOf9
 v9:=Try.zeroValue9 }
open Go.RowKit Go.Lib in
theorem Try.stringslite_IndexByte (s:ByteArray) (c:Int) (w:World) :
  Calls Try.prog 77 #[.string s,.int .u8 c] w fun e w' => e = .returned (.int .i64 (Lib.indexByte s.data.toList c.toNat.toUInt8))∧w' = w:=Any.stringslite_IndexByte Try.lays217 s c w
def Try.lays219_ren:Go.Shelf.Ren:=⟨fun | 219=>73 | 217=>77 | 225=>78 | 224=>79 | 267=>80 | 266=>82 | 314=>83 | n=>n,fun | 9=>9 | 3=>3 | 4=>4 | 5=>5 | 46=>62 | 146=>111 | 51=>80 | n=>n,fun | 1=>0 | n=>n⟩
theorem Try.lays219:Go.Proofs.Lays.n219 Try.prog Try.lays219_ren:={
 mixed:=by kernel_rfl
 f217:=Try.func77.trans (congrArg some (by kernel_rfl))
 f219:=Try.func73.trans (congrArg some (by kernel_rfl))
 f224:=Try.func79.trans (congrArg some (by kernel_rfl))
 f225:=Try.func78.trans (congrArg some (by kernel_rfl))
 f266:=Try.func82.trans (congrArg some (by kernel_rfl))
 f267:=Try.func80.trans (congrArg some (by kernel_rfl))
 f314:=Try.func83.trans (congrArg some (by kernel_rfl))
 t3:=Try.underlying3
 a3:=Try.isAgg3
 z3:=Try.sizeOf3
 v3:=Try.zeroValue3
 t4:=Try.underlying4
 a4:=Try.isAgg4
 z4:=Try.sizeOf4
 v4:=Try.zeroValue4
 t5:=Try.underlying5
 a5:=Try.isAgg5
 z5:=Try.sizeOf5
 v5:=Try.zeroValue5
 t9:=Try.underlying9
 a9:=Try.isAgg9
 z9:=Try.sizeOf9
 v9:=Try.zeroValue9
 t46:=Try.underlying62
 a46:=Try.isAgg62
 z46:=Try.sizeOf62
 v46:=Try.zeroValue62
 t51:=Try.underlying80
 a51:=Try.isAgg80
 z51:=Try.sizeOf80
 v51:=Try.zeroValue80
 t146:=Try.underlying111
 a146:=Try.isAgg111
 z146:=Try.sizeOf111
 v146:=Try.zeroValue111
 g1:=by kernel_rfl }
open Go.RowKit Go.Lib in
theorem Try.stringslite_Index (s sub:ByteArray) (m:Int) (w:World) (hs:s.size<4294967281) (hm:w.cell? ⟨0,0,none⟩=some (.int .i64 m)) :
  Calls Try.prog 73 #[.string s,.string sub] w fun e w' => e = .returned (.int .i64 (Lib.index s.data.toList sub.data.toList))∧w' = w:=Any.stringslite_Index Try.lays219 s sub m w hs hm
def Try.lays143_ren:Go.Shelf.Ren:=⟨fun | 143=>69 | 219=>73 | 217=>77 | 225=>78 | 224=>79 | 267=>80 | 266=>82 | 314=>83 | n=>n,fun | 9=>9 | 3=>3 | 4=>4 | 5=>5 | 46=>62 | 146=>111 | 51=>80 | n=>n,fun | 1=>0 | n=>n⟩
theorem Try.lays143:Go.Proofs.Lays.n143 Try.prog Try.lays143_ren:={
 mixed:=by kernel_rfl
 f143:=Try.func69.trans (congrArg some (by kernel_rfl))
 f217:=Try.func77.trans (congrArg some (by kernel_rfl))
 f219:=Try.func73.trans (congrArg some (by kernel_rfl))
 f224:=Try.func79.trans (congrArg some (by kernel_rfl))
 f225:=Try.func78.trans (congrArg some (by kernel_rfl))
 f266:=Try.func82.trans (congrArg some (by kernel_rfl))
 f267:=Try.func80.trans (congrArg some (by kernel_rfl))
 f314:=Try.func83.trans (congrArg some (by kernel_rfl))
 t3:=Try.underlying3
 a3:=Try.isAgg3
 z3:=Try.sizeOf3
 v3:=Try.zeroValue3
 t4:=Try.underlying4
 a4:=Try.isAgg4
 z4:=Try.sizeOf4
 v4:=Try.zeroValue4
 t5:=Try.underlying5
 a5:=Try.isAgg5
 z5:=Try.sizeOf5
 v5:=Try.zeroValue5
 t9:=Try.underlying9
 a9:=Try.isAgg9
 z9:=Try.sizeOf9
 v9:=Try.zeroValue9
 t46:=Try.underlying62
 a46:=Try.isAgg62
 z46:=Try.sizeOf62
 v46:=Try.zeroValue62
 t51:=Try.underlying80
 a51:=Try.isAgg80
 z51:=Try.sizeOf80
 v51:=Try.zeroValue80
 t146:=Try.underlying111
 a146:=Try.isAgg111
 z146:=Try.sizeOf111
 v146:=Try.zeroValue111
 g1:=by kernel_rfl }
open Go.RowKit Go.Lib in
theorem Try.strings_Index (s sub:ByteArray) (m:Int) (w:World) (hs:s.size<4294967281) (hm:w.cell? ⟨0,0,none⟩=some (.int .i64 m)) :
  Calls Try.prog 69 #[.string s,.string sub] w fun e w' => e = .returned (.int .i64 (Lib.index s.data.toList sub.data.toList))∧w' = w:=Any.strings_Index Try.lays143 s sub m w hs hm
def Try.lays144_ren:Go.Shelf.Ren:=⟨fun | 144=>65 | 143=>69 | 219=>73 | 217=>77 | 225=>78 | 224=>79 | 267=>80 | 266=>82 | 314=>83 | n=>n,fun | 9=>9 | 4=>4 | 3=>3 | 5=>5 | 46=>62 | 146=>111 | 51=>80 | n=>n,fun | 1=>0 | n=>n⟩
theorem Try.lays144:Go.Proofs.Lays.n144 Try.prog Try.lays144_ren:={
 mixed:=by kernel_rfl
 f143:=Try.func69.trans (congrArg some (by kernel_rfl))
 f144:=Try.func65.trans (congrArg some (by kernel_rfl))
 f217:=Try.func77.trans (congrArg some (by kernel_rfl))
 f219:=Try.func73.trans (congrArg some (by kernel_rfl))
 f224:=Try.func79.trans (congrArg some (by kernel_rfl))
 f225:=Try.func78.trans (congrArg some (by kernel_rfl))
 f266:=Try.func82.trans (congrArg some (by kernel_rfl))
 f267:=Try.func80.trans (congrArg some (by kernel_rfl))
 f314:=Try.func83.trans (congrArg some (by kernel_rfl))
 t3:=Try.underlying3
 a3:=Try.isAgg3
 z3:=Try.sizeOf3
 v3:=Try.zeroValue3
 t4:=Try.underlying4
 a4:=Try.isAgg4
 z4:=Try.sizeOf4
 v4:=Try.zeroValue4
 t5:=Try.underlying5
 a5:=Try.isAgg5
 z5:=Try.sizeOf5
 v5:=Try.zeroValue5
 t9:=Try.underlying9
 a9:=Try.isAgg9
 z9:=Try.sizeOf9
 v9:=Try.zeroValue9
 t46:=Try.underlying62
 a46:=Try.isAgg62
 z46:=Try.sizeOf62
 v46:=Try.zeroValue62
 t51:=Try.underlying80
 a51:=Try.isAgg80
 z51:=Try.sizeOf80
 v51:=Try.zeroValue80
 t146:=Try.underlying111
 a146:=Try.isAgg111
 z146:=Try.sizeOf111
 v146:=Try.zeroValue111
 g1:=by kernel_rfl }
open Go.RowKit Go.Lib in
theorem Try.strings_Contains (s sub:ByteArray) (m:Int) (w:World) (hs:s.size<4294967281) (hm:w.cell? ⟨0,0,none⟩=some (.int .i64 m)) :
  Calls Try.prog 65 #[.string s,.string sub] w fun e w' => e = .returned (.bool (Lib.contains s.data.toList sub.data.toList))∧w' = w:=Any.strings_Contains Try.lays144 s sub m w hs hm
def Try.laysM219_ren:Go.Shelf.Ren:=⟨fun | 219=>73 | 217=>77 | 225=>78 | 224=>79 | 267=>80 | 266=>82 | 314=>83 | n=>n,fun | 9=>9 | 3=>3 | 4=>4 | 5=>5 | 46=>62 | 146=>111 | 51=>80 | n=>n,fun | 1=>0 | n=>n⟩
theorem Try.laysM219:Go.Proofs.LaysM.n219 Try.prog Try.laysM219_ren:={
 mixed:=by kernel_rfl
 f217:=Try.func77.trans (congrArg some (by kernel_rfl))
 f219:=Try.func73.trans (congrArg some (by kernel_rfl))
 f224:=Try.func79.trans (congrArg some (by kernel_rfl))
 f225:=Try.func78.trans (congrArg some (by kernel_rfl))
 f266:=Try.func82.trans (congrArg some (by kernel_rfl))
 f267:=Try.func80.trans (congrArg some (by kernel_rfl))
 f314:=Try.func83.trans (congrArg some (by kernel_rfl))
 t3:=Try.underlying3
 a3:=Try.isAgg3
 z3:=Try.sizeOf3
 v3:=Try.zeroValue3
 t4:=Try.underlying4
 a4:=Try.isAgg4
 z4:=Try.sizeOf4
 v4:=Try.zeroValue4
 t5:=Try.underlying5
 a5:=Try.isAgg5
 z5:=Try.sizeOf5
 v5:=Try.zeroValue5
 t9:=Try.underlying9
 a9:=Try.isAgg9
 z9:=Try.sizeOf9
 v9:=Try.zeroValue9
 t46:=Try.underlying62
 a46:=Try.isAgg62
 z46:=Try.sizeOf62
 v46:=Try.zeroValue62
 t51:=Try.underlying80
 a51:=Try.isAgg80
 z51:=Try.sizeOf80
 v51:=Try.zeroValue80
 t146:=Try.underlying111
 a146:=Try.isAgg111
 z146:=Try.sizeOf111
 v146:=Try.zeroValue111
 g1:=by kernel_rfl
 i3:=by kernel_rfl
 i4:=by kernel_rfl
 i5:=by kernel_rfl
 i9:=by kernel_rfl
 i46:=by kernel_rfl
 i51:=by kernel_rfl
 i146:=by kernel_rfl
 m1:=by kernel_rfl
 s1_3:=fun w h=>Go.Proofs.cell_of_shapedOpen_int (zero := #[.int .i64 0]) (t:=3) h (of_decide_eq_true (by kernel_rfl)) (by kernel_rfl) rfl (by kernel_rfl) (by kernel_rfl) Try.underlying3 }
def Try.lays100_ren:Go.Shelf.Ren:=⟨fun | 100=>55 | 207=>67 | n=>n,fun | 9=>9 | 4=>4 | 3=>3 | n=>n,fun | n=>n⟩
theorem Try.lays100:Go.Proofs.Lays.n100 Try.prog Try.lays100_ren:={
 mixed:=by kernel_rfl
 f100:=Try.func55.trans (congrArg some (by kernel_rfl))
 f207:=Try.func67.trans (congrArg some (by kernel_rfl))
 t3:=Try.underlying3
 a3:=Try.isAgg3
 z3:=Try.sizeOf3
 v3:=Try.zeroValue3
 t4:=Try.underlying4
 a4:=Try.isAgg4
 z4:=Try.sizeOf4
 v4:=Try.zeroValue4
 t9:=Try.underlying9
 a9:=Try.isAgg9
 z9:=Try.sizeOf9
 v9:=Try.zeroValue9 }
open Go.RowKit Go.Lib in
theorem Try.strings_HasSuffix (s p:ByteArray) (w:World) (hs:s.size≤9223372036854775807) :
  Calls Try.prog 55 #[.string s,.string p] w fun e w' => e = .returned (.bool (Lib.hasSuffix s.data.toList p.data.toList))∧w' = w:=Any.strings_HasSuffix Try.lays100 s p w hs
def Try.lays194_ren:Go.Shelf.Ren:=⟨fun | 194=>17 | n=>n,fun | 31=>28 | 9=>9 | 3=>3 | 4=>4 | 0=>0 | n=>n,fun | n=>n⟩
theorem Try.lays194:Go.Proofs.Lays.n194 Try.prog Try.lays194_ren:={
 mixed:=by kernel_rfl
 f194:=Try.func17.trans (congrArg some (by kernel_rfl))
 t0:=Try.underlying0
 a0:=Try.isAgg0
 z0:=Try.sizeOf0
 v0:=Try.zeroValue0
 t3:=Try.underlying3
 a3:=Try.isAgg3
 z3:=Try.sizeOf3
 v3:=Try.zeroValue3
 t4:=Try.underlying4
 a4:=Try.isAgg4
 z4:=Try.sizeOf4
 v4:=Try.zeroValue4
 t9:=Try.underlying9
 a9:=Try.isAgg9
 z9:=Try.sizeOf9
 v9:=Try.zeroValue9
 t31:=Try.underlying28
 a31:=Try.isAgg28
 z31:=Try.sizeOf28
 v31:=Try.zeroValue28 }
def Try.laysNm224_ren:Go.Shelf.Ren:=⟨fun | 24=>34 | n=>n,fun | 24=>28 | 9=>9 | 3=>3 | 4=>4 | 0=>0 | n=>n,fun | n=>n⟩
theorem Try.laysNm224:Go.Proofs.Lays2.n24 Try.prog Try.laysNm224_ren:={
 mixed:=by kernel_rfl
 f24:=Try.func34.trans (congrArg some (by kernel_rfl))
 t0:=Try.underlying0
 a0:=Try.isAgg0
 z0:=Try.sizeOf0
 v0:=Try.zeroValue0
 t3:=Try.underlying3
 a3:=Try.isAgg3
 z3:=Try.sizeOf3
 v3:=Try.zeroValue3
 t4:=Try.underlying4
 a4:=Try.isAgg4
 z4:=Try.sizeOf4
 v4:=Try.zeroValue4
 t9:=Try.underlying9
 a9:=Try.isAgg9
 z9:=Try.sizeOf9
 v9:=Try.zeroValue9
 t24:=Try.underlying28
 a24:=Try.isAgg28
 z24:=Try.sizeOf28
 v24:=Try.zeroValue28
 i9:=by kernel_rfl }
open Go.RowKit Go.Lib Go.Sort in
theorem Try.slices_Delete_string (blk off cap i j:Nat) (zs:List (List UInt8)) (w:World) (hH:Holds encStr w blk off zs.toArray) (hcap:zs.length≤cap) (hm:cap≤9223372036854775807) (hij:i≤j) (hj:j≤zs.length) :
  Calls Try.prog 34 #[.slice (some ⟨blk,off,none⟩) zs.length cap,.int .i64 i,.int .i64 j] w fun e w' => e = .returned (.slice (some ⟨blk,off,none⟩) (zs.length-(j-i)) cap)∧∃ q,w' = putRow encStr (Sort.ahead w q) blk off (zs.take i++zs.drop j++List.replicate (j-i) []).toArray:=Any.slices_Delete_string Try.laysNm224 blk off cap i j zs w hH hcap hm hij hj
def Try.lays190_ren:Go.Shelf.Ren:=⟨fun | 190=>16 | 125=>28 | 258=>27 | 128=>50 | 129=>51 | 302=>41 | 303=>42 | 304=>43 | 305=>44 | 306=>45 | 307=>46 | 308=>47 | 309=>48 | 310=>49 | 333=>56 | 329=>57 | 330=>58 | 334=>59 | 335=>60 | 336=>61 | 344=>68 | n=>n,fun | 31=>28 | 9=>9 | 3=>3 | 46=>62 | 0=>0 | 51=>80 | 53=>82 | 4=>4 | 183=>72 | 182=>71 | 131=>77 | 5=>5 | 218=>87 | 222=>91 | 228=>98 | 229=>99 | n=>n,fun | n=>n⟩
theorem Try.lays190:Go.Proofs.Lays.n190 Try.prog Try.lays190_ren:={
 mixed:=by kernel_rfl
 f125:=Try.func28.trans (congrArg some (by kernel_rfl))
 f128:=Try.func50.trans (congrArg some (by kernel_rfl))
 f129:=Try.func51.trans (congrArg some (by kernel_rfl))
 f190:=Try.func16.trans (congrArg some (by kernel_rfl))
 f258:=Try.func27.trans (congrArg some (by kernel_rfl))
 f302:=Try.func41.trans (congrArg some (by kernel_rfl))
 f303:=Try.func42.trans (congrArg some (by kernel_rfl))
 f304:=Try.func43.trans (congrArg some (by kernel_rfl))
 f305:=Try.func44.trans (congrArg some (by kernel_rfl))
 f306:=Try.func45.trans (congrArg some (by kernel_rfl))
 f307:=Try.func46.trans (congrArg some (by kernel_rfl))
 f308:=Try.func47.trans (congrArg some (by kernel_rfl))
 f309:=Try.func48.trans (congrArg some (by kernel_rfl))
 f310:=Try.func49.trans (congrArg some (by kernel_rfl))
 f329:=Try.func57.trans (congrArg some (by kernel_rfl))
 f330:=Try.func58.trans (congrArg some (by kernel_rfl))
 f333:=Try.func56.trans (congrArg some (by kernel_rfl))
 f334:=Try.func59.trans (congrArg some (by kernel_rfl))
 f335:=Try.func60.trans (congrArg some (by kernel_rfl))
 f336:=Try.func61.trans (congrArg some (by kernel_rfl))
 f344:=Try.func68.trans (congrArg some (by kernel_rfl))
 t0:=Try.underlying0
 a0:=Try.isAgg0
 z0:=Try.sizeOf0
 v0:=Try.zeroValue0
 t3:=Try.underlying3
 a3:=Try.isAgg3
 z3:=Try.sizeOf3
 v3:=Try.zeroValue3
 t4:=Try.underlying4
 a4:=Try.isAgg4
 z4:=Try.sizeOf4
 v4:=Try.zeroValue4
 t5:=Try.underlying5
 a5:=Try.isAgg5
 z5:=Try.sizeOf5
 v5:=Try.zeroValue5
 t9:=Try.underlying9
 a9:=Try.isAgg9
 z9:=Try.sizeOf9
 v9:=Try.zeroValue9
 t31:=Try.underlying28
 a31:=Try.isAgg28
 z31:=Try.sizeOf28
 v31:=Try.zeroValue28
 t46:=Try.underlying62
 a46:=Try.isAgg62
 z46:=Try.sizeOf62
 v46:=Try.zeroValue62
 t51:=Try.underlying80
 a51:=Try.isAgg80
 z51:=Try.sizeOf80
 v51:=Try.zeroValue80
 t53:=Try.underlying82
 a53:=Try.isAgg82
 z53:=Try.sizeOf82
 v53:=Try.zeroValue82
 t131:=Try.underlying77
 a131:=Try.isAgg77
 z131:=Try.sizeOf77
 v131:=Try.zeroValue77
 t182:=Try.underlying71
 a182:=Try.isAgg71
 z182:=Try.sizeOf71
 v182:=Try.zeroValue71
 t183:=Try.underlying72
 a183:=Try.isAgg72
 z183:=Try.sizeOf72
 v183:=Try.zeroValue72
 t218:=Try.underlying87
 a218:=Try.isAgg87
 z218:=Try.sizeOf87
 v218:=Try.zeroValue87
 t222:=Try.underlying91
 a222:=Try.isAgg91
 z222:=Try.sizeOf91
 v222:=Try.zeroValue91
 t228:=Try.underlying98
 a228:=Try.isAgg98
 z228:=Try.sizeOf98
 v228:=Try.zeroValue98
 t229:=Try.underlying99
 a229:=Try.isAgg99
 z229:=Try.sizeOf99
 v229:=Try.zeroValue99 }
end Go.Proofs
end

section
namespace Go.Proofs.Ytfgegilhjlnohaa
open Go.RowKit
theorem PCall.ofCallsG {P:Program} {f:FuncId} {args:List V} {r:D} {R:Value} (hn:isFn P f=true) (hr:∀ G w,DRel G w r R)
  (h:∀ w us,(∃ C,GlobOk C w)→us.size=args.length→(∀ (j:Nat) x u,args[j]? = some x→us[j]? = some u→∃ C,VRel C w x u)→Calls P f us w fun e w' => e = .returned R∧Below w.heap.size w w'):PCall P f args r :=
 ⟨hn,fun C w us hg hs hrel=>(h w us ⟨C,hg⟩ hs fun j x u hx hu=>⟨_,hrel j x u hx hu⟩).mono fun _ _ ⟨he,hb⟩=>⟨R,he,hr _ _,hb⟩⟩
theorem Qnn {C:Nat→Nat→Prop} {w:World} {l:List UInt8} {u:Value} (h:VRel C w (sV l) u):u = .string ⟨l.toArray⟩:=by cases h; rfl
theorem Qwy {C:Nat→Nat→Prop} {w:World} {k:IntKind} {n:Int} {u:Value} (h:VRel C w (.v (.int k n)) u):u = .int k n:=by cases h; rfl
theorem Qpy {w w' : World} (h:w' = w):Below w.heap.size w w' := by subst h; exact Below.refl _ _
theorem Qwz {p:Prop} [Decidable p] {R:Type} {f:Unit→Option R} {r:R} (h:(need p>>=f)=some r):p∧f ()=some r:=by
 unfold need at h
 split at h
 ·exact⟨by assumption,h⟩
 ·cases h
theorem Qsi (l:List UInt8) (c:Int):PCall Try.prog 77 [sV l,nV .u8 c] (.p (iV (Lib.indexByte l c.toNat.toUInt8))):=by
 refine PCall.ofCallsG (by kernel_rfl) (fun _ _ =>.p _ _ (.v _ rfl)) fun w us _ hs h=>?_
 obtain⟨a,b,rfl⟩:=us2 hs
 obtain⟨_,h0⟩:=h 0 _ a rfl rfl
 obtain⟨_,h1⟩:=h 1 _ b rfl rfl
 rw[Qnn h0,Qwy h1]
 exact(Try.stringslite_IndexByte _ c w).mono fun e w' ⟨he,hw⟩=>⟨he,Qpy hw⟩
theorem Qx9 (l s:List UInt8) (hl:l.length<4294967281):PCall Try.prog 73 [sV l,sV s] (.p (iV (Lib.index l s))):=by
 refine PCall.ofCallsG (by kernel_rfl) (fun _ _ =>.p _ _ (.v _ rfl)) fun w us hg hs h=>?_
 obtain⟨a,b,rfl⟩:=us2 hs
 obtain⟨_,h0⟩:=h 0 _ a rfl rfl
 obtain⟨_,h1⟩:=h 1 _ b rfl rfl
 obtain⟨_,hg⟩:=hg
 obtain⟨m,-,hm⟩:=hg.1 0 (by simp[globsL])
 rw[Qnn h0,Qnn h1]
 exact(Try.stringslite_Index _ _ m w (by show l.toArray.size<_; simpa using hl) hm).mono fun e w' ⟨he,hw⟩=>⟨he,Qpy hw⟩
end Go.Proofs.Ytfgegilhjlnohaa
end

section
namespace Go.Proofs.Ytfgegilhjlnohaa
open Go.RowKit Go.Sort Go.Shelf
theorem Qsj (s:List UInt8):encStr s=strOf s:=rfl
theorem SRow.holds {w:World} {b e:Nat} {us:Array Value} {ss:List (List UInt8)} (h:SRow w b e us ss):Holds encStr w b 0 ss.toArray:=fun j hj=>by
 have hj:j<ss.length:=by simpa using hj
 have h1:=h.cell j ss[j] (List.getElem?_eq_getElem hj)
 have hus:j<us.size:=by have:=h.len; omega
 have e1:ss.toArray[j]! = ss[j]:=by simp[hj]
 rw[Nat.zero_add,e1,Qsj]
 refine⟨?_,?_⟩
 ·simp[World.cell?,h.row,h1]
 ·simp[World.frozen?,h.row]
theorem Qi9 {w:World} {b e n:Nat} {us:Array Value} {ss:List (List UInt8)} (h:SRow w b e us ss) (hn:us.size=n) (q:Nat) (d:Array (List UInt8)) (hd:d.size≤us.size) (ss' : List (List UInt8)) (hs:∀ (i:Nat) s,ss'[i]? = some s→d[i]? = some s) (os:Array Obj) :
  RowTurns w (grow (putRow encStr (Sort.ahead w q) b 0 d) os) b e n ss' := by
 have hbl:b<w.heap.size:=(Array.getElem?_eq_some_iff.1 h.row).1
 have hlen:ss'.length≤d.size:=by
  by_cases hz:ss'.length=0
  ·omega
  ·have:=hs (ss'.length-1) ss'[ss'.length-1] (List.getElem?_eq_getElem (by omega))
   have:=(Array.getElem?_eq_some_iff.1 this).1
   omega
 have hsz:(putRow encStr (Sort.ahead w q) b 0 d).heap.size=w.heap.size:=by simp[putRow,mapBlock,Sort.ahead]
 have hget:∀ k,k<w.heap.size→(grow (putRow encStr (Sort.ahead w q) b 0 d) os).heap[k]? = (putRow encStr (Sort.ahead w q) b 0 d).heap[k]? := fun k hk=>by
  show((putRow encStr (Sort.ahead w q) b 0 d).heap++os)[k]? = _
  rw[Array.getElem?_append_left (by omega)]
 refine⟨rfl,rfl,rfl,?_,fun k hk hne=>?_,putCells encStr 0 d us,⟨?_,?_,fun i s hi=>?_⟩,?_⟩
 ·show w.heap.size≤((putRow encStr (Sort.ahead w q) b 0 d).heap++os).size
  rw[Array.size_append]; omega
 ·rw[hget k hk]
  simp[putRow,mapBlock,Sort.ahead,Array.getElem?_modify,Ne.symm hne]
 ·rw[hget b hbl]
  simp[putRow,mapBlock,Sort.ahead,Array.getElem?_modify,h.row,onCells]
 ·simp[putCells]; omega
 ·have hd2:=hs i s hi
  have hil:=(Array.getElem?_eq_some_iff.1 hd2).1
  have e1:d[i]=s:=(Array.getElem?_eq_some_iff.1 hd2).2
  simp only[putCells,Array.getElem?_mapIdx]
  rw[Array.getElem?_eq_getElem (show i<us.size by omega)]
  simp[hil,Qsj,e1]
 ·simp[putCells,hn]
theorem sortFnT {P:Program} {ρ : Ren} (L:Lays.n190 P ρ) (hfn:isFn P (ρ.f 190)=true) (ss:List (List UInt8)) (hl:ss.length<4611686018427387904):FnT P (ρ.f 190) #[] false ss (ss.mergeSort fun x y=>decide (x≤y)):=by
 refine⟨hfn,by simp,fun _=>by simp,fun w a cap h1 h2=>⟨fun h0=>?_,fun b us e ha hus hc hS=>?_⟩⟩
 ·exact(calls_of_every_depth fun D=>AnyS.slices_Sort_string_none_alone L D a 0 w).mono fun en w' ⟨he,hw⟩=>⟨he,by rw[hw]; exact .refl _ _⟩
 ·subst ha
  refine(calls_of_every_depth fun D=>AnyS.slices_Sort_string_alone L D b 0 cap ss w hS.holds (Array.getElem?_eq_some_iff.1 hS.row).1 hl).mono fun en w' ⟨he,n,os,hw⟩=>⟨he,?_⟩
  rw[hw]
  exact Qi9 hS hus n _ (by simp; exact hS.len) _ (fun i s hi=>by simpa using hi) os
theorem Qno (zs:List (List UInt8)):(Lib.compact zs).length≤zs.length:=by
 unfold Lib.compact Lib.compactUpTo
 rw[List.length_map]
 have:=List.length_filter_le (Lib.keeps zs.toArray) (List.range zs.length)
 rwa [List.length_range] at this
theorem compactFnT {P:Program} {ρ : Ren} (L:Lays.n194 P ρ) (hfn:isFn P (ρ.f 194)=true) (ss:List (List UInt8)) (hl:ss.length<4611686018427387904):FnT P (ρ.f 194) #[] true ss (Lib.compact ss):=by
 refine⟨hfn,Qno ss,fun h=>(nomatch h),fun w a cap h1 h2=>⟨fun h0=>?_,fun b us e ha hus hc hS=>?_⟩⟩
 ·exact(calls_of_every_depth fun D=>AnyS.slices_Compact_string_empty_in L D a 0 w).mono fun en w' ⟨he,hw⟩=>⟨he,by rw[hw]; exact .refl _ _⟩
 ·subst ha
  refine(calls_of_every_depth fun D=>AnyS.slices_Compact_string_in L D b 0 cap ss w hS.holds (by omega) h1).mono fun en w' ⟨he,q,hw⟩=>⟨he,?_⟩
  have hcl:=Qno ss
  have:=Qi9 hS hus q (Lib.compact ss++List.replicate (ss.length-(Lib.compact ss).length) []).toArray (by simp; have:=hS.len; omega) (Lib.compact ss) (fun i s hi=>by
   have:=(List.getElem?_eq_some_iff.1 hi).1
   rw[List.getElem?_toArray,List.getElem?_append_left this]; exact hi) #[]
  rw[hw]
  simpa using this
end Go.Proofs.Ytfgegilhjlnohaa
end

section
namespace Go.Proofs.Ytfgegilhjlnohaa
open Go.RowKit
section
variable {P:Program} {tb:Tbl}
theorem Qya {G G' : Gh} {w w' : World} {n m:Nat} {I J:List Nat} (hE:Ex (n,m) G w G' w') (hn:G.name.length=n) (hm:G.tok.length=m) (hI:∀ i ∈ I,i<G'.name.length) (hJ:∀ j ∈ J,j<G'.tok.length) (hdI:I.take n=List.range n) (hid:J.take m=List.range m):Stp G w (G'.sub I J) w' := by
 have low:∀ {K:List Nat} {m t:Nat},K.take m=List.range m→t<m→K[t]? = some t:=fun {K m t} h hl=>by
  have:=congrArg (·[t]?) h
  simp only[List.getElem?_take,if_pos hl,Qks hl] at this
  exact this
 refine⟨⟨hE.ext.os,hE.ext.tape,hE.ext.output,hE.ext.size,hE.ext.com,hE.ext.old,hE.ext.new,fun b hb=>?_,hE.ext.mono,hE.ext.shp⟩,fun nm b hb=>?_,fun t T ht=>?_⟩
 ·rcases hb with hb | ⟨T,hT,hb⟩
  ·exact hE.ext.mine b (.inl (Qdx hI hb))
  ·exact hE.ext.mine b (.inr ⟨T,Qdx hJ hT,hb⟩)
 ·have hl:nm<n:=by rw[← hn]; exact(List.getElem?_eq_some_iff.1 hb).1
  have hk:=low hdI hl
  rw[Qib hk (hI nm (List.mem_of_getElem? hk))]
  exact hE.name nm b hl hb
 ·have hl:t<m:=by rw[← hm]; exact(List.getElem?_eq_some_iff.1 ht).1
  obtain⟨T', h1,h2⟩:=hE.tok t T hl ht
  have hJt:=low hid hl
  exact⟨T', by rw[Qi7 hJt (hJ t (List.mem_of_getElem? hJt))]; exact h1,h2⟩
structure EndN (n m:Nat) (s' : S) (r d:D) (t:S):Prop where
 ex:∃ I J,selOk n t.heap.length I=true∧selOk m t.live.length J=true∧LeD d (r.ren I J)∧LeH (t.heap.take n) ((s'.heap.take n).map fun cs=>cs.map (D.ren I J)) ∧
  (I.drop n).map (t.heap.getD · [])=(s'.heap.drop n).map (fun cs=>cs.map (D.ren I J))∧J.map (t.live.getD · 0)=s'.live
def retEo (ds:List D):D:=match ds with
 | [d]=>d
 | ds =>.tup ds
def retRo (tb:Tbl) (rs:List ResultVar) (R:D→S→Prop) (e:Exit) (σ : St):Prop :=
 match e with
 | .normal=>resAll tb σ rs fun ds=>R (retEo ds) σ.s
 | .ret=>resAll tb σ rs fun ds=>R (retEo ds) σ.s
 | _=>False
theorem Qw0 {G:Gh} {w:World} {ds:List D} {us:List Value} (hl:us.length=ds.length) (h:∀ (j:Nat) d u,ds[j]? = some d→us[j]? = some u→DRel G w d u) :
  DRel G w (retEo ds) (if h:us.toArray.size=1 then us.toArray[0] else .tuple us.toArray):=by
 unfold retEo
 split
 ·rename_i d
  match us,hl with
  | [u],_=>exact h 0 _ u rfl rfl
 ·rename_i hne
  have hsz:¬ us.toArray.size=1:=by
   intro h1
   have h2:ds.length=1:=by rw[← hl]; simpa using h1
   match ds,h2 with
   | [d],_=>exact hne d rfl
  rw[dif_neg hsz]
  exact .tup _ _ (by simp[hl]) fun j c u hc hu=>h j c u hc (by simpa using hu)
theorem CallOK.ofTN (hT:TblOk P tb) {f:FuncId} {fn:Func} {c:Code} (hf:P.funcs[f]? = some fn) (hb:fn.body=some c) (hn:isFn P f=true) {args:List D} (hN:args.length≤fn.ntmps) {s s' : S} {r:D}
  (hr:r.lt s'.heap.length s'.live.length=true) (hs:s'.heap.all (fun cs=>cs.all (D.lt s'.heap.length s'.live.length))=true)
  (hn' : s.heap.length≤s'.heap.length)
  (h:T (s.heap.length,s.live.length) P fn.ntmps c (fun e σ => ∃ τ,Le (s.heap.length,s.live.length) fn.ntmps σ τ ∧ retRo tb fn.results.toList (EndN s.heap.length s.live.length s' r) e τ) ⟨argsD args 0,s⟩):CallOK P f args s r s' := by
 refine⟨hn,fun G w us hI hl hrel=>?_⟩
 have hR:Rel fn.ntmps G ⟨argsD args 0,s⟩ { tmps:=us++Array.replicate (fn.ntmps-us.size) undef,defers:=[] } w:=by
  refine⟨hI,fun t d hd=>?_,by simp; omega⟩
  obtain⟨h1,h2⟩:=Qjr args 0 t d hd
  have hlt:t<args.length:=(List.getElem?_eq_some_iff.1 h1).1
  have hlt2:t<us.size:=by omega
  refine⟨by simp; omega,?_⟩
  refine hrel t d _ h1 ?_
  simp only[Array.getD_eq_getD_getElem?,Array.getElem?_append_left hlt2,Array.getElem?_eq_getElem hlt2,Option.getD_some]
 have hln:G.name.length=s.heap.length:=hI.names
 have hlt:G.tok.length=s.live.length:=by rw[← hI.live]; simp
 refine Qhw hf hb (T_up h fun e σ' hq=>hq) hR fun e G' σ' a' w' hE hR' hq=>?_
 have key:∀ (hq:resAll tb σ' fn.results.toList fun ds=>EndN s.heap.length s.live.length s' r (retEo ds) σ'.s),∃ v,(results fn a'.tmps).run P w' = .ok v w' ∧
   ∃ u G', Ending.returned v = .returned u∧Stp G w G' w' ∧ Inv G' s' w' ∧ DRel G' w' r u:=fun hq=>by
  obtain⟨ds,us', h1,h2,h3,⟨I,J,hI0,hJ0,h4,h5,h5b,h6⟩⟩:=Qeu hT hR' _ _ hq
  unfold selOk at hJ0 hI0
  simp only[Bool.and_eq_true] at hJ0 hI0
  obtain⟨⟨hI1,hI2⟩,hI3⟩:=hI0
  obtain⟨⟨hJ1,hJ2⟩,hJ3⟩:=hJ0
  have nI:=Qc6 I hI1
  have nJ:=Qc6 J hJ1
  have bI:=Qhk hI2
  have bJ:=Qhk hJ2
  have hI3' : I.take s.heap.length=List.range s.heap.length:=by simpa using hI3
  have lT:G'.tok.length = σ'.s.live.length:=by have:=congrArg List.length hR'.inv.live; simpa using this
  have lN:G'.name.length = σ'.s.heap.length:=hR'.inv.names
  have hd:=(Qw0 h2 h3).le h4
  have h7:=LeH.app h5 (LeH.refl (σ'.s.heap.drop s.heap.length))
  rw[List.take_append_drop] at h7
  have hinv1:=Inv.le (h := σ'.s.heap) (live := σ'.s.live) hR'.inv h7
  have hlen:((s'.heap.take s.heap.length).map fun cs=>cs.map (D.ren I J)).length=s.heap.length:=by rw[List.length_map,List.length_take]; omega
  have hlI:I.length=s'.heap.length:=by
   have e1:=congrArg List.length h5b
   have e2:=congrArg List.length hI3'
   simp only[List.length_map,List.length_drop,List.length_take,List.length_range] at e1 e2
   omega
  have hlJ:J.length=s'.live.length:=by rw[← h6]; simp
  have hll:((s'.heap.take s.heap.length).map (fun cs=>cs.map (D.ren I J)) ++ σ'.s.heap.drop s.heap.length).length = σ'.s.heap.length:=by
   have:=hinv1.names
   rw[← this,lN]
  have up:∀ i ∈ I.drop s.heap.length,s.heap.length≤i:=fun i hi=>by
   refine Nat.le_of_not_lt fun hlt=>?_
   have e:(I.take s.heap.length++I.drop s.heap.length).Nodup:=by rw[List.take_append_drop]; exact nI
   refine(List.nodup_append.1 e).2.2 i ?_ i hi rfl
   rw[hI3']; exact List.mem_range.2 hlt
  have hinv2:Inv (G'.sub I J) ⟨s'.heap,s'.live⟩ w' := hinv1.sub (I:=I) (J:=J) nI nJ (fun i hi=>by rw[hll]; exact bI i hi) bJ (by
   have e:=Qsh ((s'.heap.take s.heap.length).map fun cs=>cs.map (D.ren I J)) (σ'.s.heap.drop s.heap.length) []
   rw[hlen] at e
   have e2:(I.drop s.heap.length).map (((s'.heap.take s.heap.length).map (fun cs=>cs.map (D.ren I J)) ++ σ'.s.heap.drop s.heap.length).getD · [])=(s'.heap.drop s.heap.length).map (fun cs=>cs.map (D.ren I J)):=by
    rw[← h5b]
    refine List.map_congr_left fun i hi=>?_
    have hi2:=up i hi
    simp only[List.getD]
    rw[List.getElem?_append_right (by omega),List.getElem?_drop,hlen]
    congr 2; omega
   have e3:I=List.range s.heap.length++I.drop s.heap.length:=by rw[← hI3', List.take_append_drop]
   have e4:s'.heap.map (fun cs=>cs.map (D.ren I J))=(s'.heap.take s.heap.length).map (fun cs=>cs.map (D.ren I J))++(s'.heap.drop s.heap.length).map (fun cs=>cs.map (D.ren I J)):=by rw[← List.map_append,List.take_append_drop]
   exact(congrArg (List.map _) e3).trans (by rw[List.map_append,e,e2,e4])) h6 (by rw[hlI,hlJ]; exact hs)
  have hst:Stp G w (G'.sub I J) w' := Qya hE hln hlt (fun i hi=>by rw[lN]; exact bI i hi) (fun j hj=>by rw[lT]; exact bJ j hj) hI3' (by simpa using hJ3)
  refine⟨if h:us'.toArray.size=1 then us'.toArray[0] else .tuple us'.toArray,?_,_,_,rfl,hst,hinv2,Qqf (fun i hi=>by rw[lN]; exact bI i hi) (fun j hj=>by rw[lT]; exact bJ j hj) (by rw[hlI,hlJ]; exact hr) hd⟩
  unfold results
  rw[Sem.run_bind,Array.mapM_eq_mapM_toList,Sem.run_map]
  erw [h1]
  rfl
 cases e with
 | normal=>exact⟨.inl rfl,key hq⟩
 | ret=>exact⟨.inr rfl,key hq⟩
 | _=>exact hq.elim
theorem CallOK.ofBN (hm:P.follows .mixedOrders=true) (hT:TblOk P tb) {f:FuncId} {fn:Func} {c:Code} (lv:List (Nat×List Nat)) (hf:P.funcs[f]? = some fn) (hb:fn.body=some c) (hn:isFn P f=true) {args:List D} (hN:args.length≤fn.ntmps) {s s' : S} {r:D}
  (hr:r.lt s'.heap.length s'.live.length=true) (hs:s'.heap.all (fun cs=>cs.all (D.lt s'.heap.length s'.live.length))=true)
  (hn' : s.heap.length≤s'.heap.length)
  (h:bwp (s.heap.length,s.live.length) P tb fn.ntmps lv c (fun e σ => ∃ τ,Le (s.heap.length,s.live.length) fn.ntmps σ τ ∧ retRo tb fn.results.toList (EndN s.heap.length s.live.length s' r) e τ) ⟨argsD args 0,s⟩):CallOK P f args s r s' :=
 CallOK.ofTN hT hf hb hn hN hr hs hn' (Qak hm hT c _ _ h)
theorem Qy9 {α : Type} {x y : α} {d:D} {u:S} {n m:Nat} {t : α → D} {ss : α → S} (h:some x=some y) (k:EndN n m (ss x) (t x) d u):EndN n m (ss y) (t y) d u:=by cases h; exact k
end
theorem Qhi {p:Prop} [Decidable p] {R:Type} {f:Unit→Option R} {r:R} {φ : Prop} (h:(need p>>=f)=some r) (k:p→f ()=some r → φ) : φ := by
 unfold need at h
 split at h
 ·rename_i hp; exact k hp h
 ·cases h
def noTD (t:Nat):D→Bool
 | .agg ds=>ds.all (noT1 t)
 | .tup ds=>ds.all (noT1 t)
 | .fn _ x y=>x.all (noT1 t)&&y.all (noT1 t)
 | d=>noT1 t d
def verOk (t q:Nat):Env→Bool
 | []=>false
 | (s,d)::r=>if s=q then r.all (fun p=>noTD t p.2) else noTD t d&&verOk t q r
theorem Qtv {t v v' : Nat} {d:D} (h:noT1 t d=true):ver1 t v v' d=d:=by
 cases d with
 | x t' w X =>
  have:t' ≠ t:=by simpa [noT1] using h
  simp[ver1,this]
 | _=>rfl
theorem Qza {t v v' : Nat} {ds:List D} (h:ds.all (noT1 t)=true):ds.map (ver1 t v v')=ds:=by
 rw[List.all_eq_true] at h
 exact(List.map_congr_left (g:=id) fun d hd=>Qtv (h d hd)).trans (List.map_id ds)
theorem Qw1 {t v v' : Nat} {d:D} (h:noTD t d=true):verD t v v' d=d:=by
 cases d with
 | agg ds=>exact congrArg D.agg (Qza h)
 | x t' w X=>exact Qtv (d :=.x t' w X) h
 | _=>rfl
theorem Qw2 {t v v' : Nat}:∀ {env:Env},env.all (fun p=>noTD t p.2)=true→verE t v v' env=env
 | [],_=>rfl
 | (s,d)::r,h=>by
  simp only[List.all_cons,Bool.and_eq_true] at h
  rw[verE,Qw1 h.1,Qw2 h.2]
theorem Qyn {t v:Nat} {d:D} (h:noTD t d=true):okT t v d=true:=by
 have one:∀ d:D,noT1 t d=true→okT1 t v d=true:=fun d h=>by
  cases d with
  | x t' w X=>have h:(t' != t)=true:=h; simp[okT1,h]
  | fn _ _ _=>cases h
  | agg _=>cases h
  | tup _=>cases h
  | sf _=>cases h
  | ef _=>cases h
  | _=>exact h
 cases d with
 | agg ds =>
  have h:ds.all (noT1 t)=true:=h
  rw[List.all_eq_true] at h
  exact List.all_eq_true.2 fun d hd=>one d (h d hd)
 | tup ds=>exact h
 | fn _ x y=>exact h
 | sf _=>cases h
 | ef _=>cases h
 | p x=>exact one (.p x) h
 | ptr a b=>exact one (.ptr a b) h
 | own a b c e=>exact one (.own a b c e) h
 | yld a b c=>exact one (.yld a b c) h
 | sp a b c d e=>exact one (.sp a b c d e) h
 | x a b c=>exact one (.x a b c) h
 | mh a=>exact one (.mh a) h
 | undef=>exact one .undef h
theorem Qw3 {t q v v' : Nat} {X:XD}:∀ {env:Env},verOk t q env=true→env.lookup q=some (.x t v X)→verE t v v' env=setE env q (.x t v' X)∧env.all (fun p=>okT t v p.2)=true
 | [],h,_=>by cases h
 | (s,d)::r,h,hl=>by
  unfold verOk at h
  by_cases hs:s=q
  ·rw[if_pos hs] at h
   subst hs
   simp only[List.lookup_cons,beq_self_eq_true,Option.some.injEq] at hl
   subst hl
   refine⟨?_,?_⟩
   ·rw[verE,Qw2 h,setE,if_pos rfl]; simp[verD,ver1]
   ·simp only[List.all_cons,Bool.and_eq_true]
    refine⟨by simp[okT,okT1],?_⟩
    rw[List.all_eq_true] at h ⊢
    exact fun p hp=>Qyn (h p hp)
  ·rw[if_neg hs] at h
   simp only[Bool.and_eq_true] at h
   have hb:(q==s)=false:=by simpa using Ne.symm hs
   rw[List.lookup_cons,hb] at hl
   obtain⟨e1,e2⟩:=Qw3 h.2 hl
   refine⟨?_,?_⟩
   ·rw[verE,Qw1 h.1,e1,setE,if_neg hs]
   ·simp only[List.all_cons,Bool.and_eq_true]; exact⟨Qyn h.1,e2⟩
def noTH (t:Nat):D→Bool
 | .tup [.p _]=>true
 | .fn _ x y=>x.all (noT1 t)&&y.all (noT1 t)
 | d=>noT1 t d
theorem Qzb {t v v' : Nat} {d:D} (h:noTH t d=true):ver1 t v v' d=d:=by
 cases d with
 | x t' w X=>exact Qtv (d :=.x t' w X) h
 | _=>rfl
theorem Qzc {t v:Nat} {d:D} (h:noTH t d=true):okT1 t v d=true:=by
 cases d with
 | x t' w X=>have h:(t' != t)=true:=h; simp[okT1,h]
 | fn _ _ _=>exact h
 | agg _=>cases h
 | tup ds =>
  match ds,h with
  | [.p _],_=>rfl
 | sf _=>cases h
 | ef _=>cases h
 | p x=>exact h
 | ptr a b=>exact h
 | own a b c e=>exact h
 | yld a b c=>exact h
 | sp a b c d e=>exact h
 | mh a=>exact h
 | undef=>exact h
theorem Le.verh {B:Nat×Nat} {N:Nat} {env:Env} {s:S} (q t v v' : Nat) {X:XD} (h:s.live[t]? = some v) (hg:env.lookup q=some (.x t v X)) (hE:verOk t q env=true) (hH:s.heap.all (fun cs=>cs.all (noTH t))=true)
  (hB:B.2≤t:=by exact Nat.le_of_ble_eq_true rfl):Le B N ⟨env,s⟩ ⟨setE env q (.x t v' X),⟨s.heap,s.live.set t v'⟩⟩:=by
 obtain⟨e1,e2⟩:=Qw3 (v' := v') hE hg
 have e3:verH t v v' s.heap=s.heap:=by
  rw[Qms]
  rw[List.all_eq_true] at hH
  refine(List.map_congr_left (g:=id) fun cs hc=>?_).trans (List.map_id s.heap)
  have:=hH cs hc
  rw[List.all_eq_true] at this
  exact(List.map_congr_left (g:=id) fun d hd=>Qzb (this d hd)).trans (List.map_id cs)
 have e4:s.heap.all (fun cs=>cs.all (okT1 t v))=true:=by
  rw[List.all_eq_true] at hH ⊢
  intro cs hc
  have:=hH cs hc
  rw[List.all_eq_true] at this ⊢
  intro d hd
  exact Qzc (this d hd)
 have:=Le.ver (B:=B) (N:=N) (env:=env) (s:=s) (.s q) t v v' h hg e2 e4 hB
 rwa [e1,e3] at this
end Go.Proofs.Ytfgegilhjlnohaa
end

section
namespace Go.Proofs.Ytfgegilhjlnohaa
open Go.RowKit
set_option linter.unusedVariables false
def mget {κ α : Type} (eqb : κ → κ → Bool) (k : κ):List (κ × α)→Option α
 | []=>none
 | p::r=>if eqb k p.1 then some p.2 else mget eqb k r
def mset {κ α : Type} (eqb : κ → κ → Bool) (k : κ) (x : α):List (κ × α)→List (κ × α)
 | []=>[(k,x)]
 | p::r=>if eqb k p.1 then(k,x)::r else p::mset eqb k x r
abbrev mpR {κ α : Type} (ck : κ → V) (ca : α → V) (l:List (κ × α)):List (List V):=l.map fun p=>[ck p.1,ca p.2]
abbrev mpD {κ α : Type} (ck : κ → V) (ca : α → V) (l:List (κ × α)):D :=.tup [.p (.sl false (mpR ck ca l))]
theorem Qsk {κ α : Type} {eq:V→V→Option Bool} {eqb : κ → κ → Bool} {ck : κ → V} {ca : α → V} (heq:∀ a b,eq (ck a) (ck b)=some (eqb a b)) (k : κ):∀ l:List (κ × α),mFind eq (ck k) (mpR ck ca l)=some ((mget eqb k l).map ca)
 | []=>rfl
 | p::r=>by
  have ih:=Qsk (ca:=ca) heq k r
  show mFind eq (ck k) ([ck p.1,ca p.2]::mpR ck ca r)=_
  rw[mFind,heq,mget]
  cases eqb k p.1 with
  | true=>rfl
  | false=>exact ih
theorem Quy {κ α : Type} {eq:V→V→Option Bool} {eqb : κ → κ → Bool} {ck : κ → V} {ca : α → V} (heq:∀ a b,eq (ck a) (ck b)=some (eqb a b)) (k : κ) (x : α):∀ l:List (κ × α),mSet eq (ck k) (ca x) (mpR ck ca l)=some (mpR ck ca (mset eqb k x l))
 | []=>rfl
 | p::r=>by
  have ih:=Quy (ca:=ca) heq k x r
  show mSet eq (ck k) (ca x) ([ck p.1,ca p.2]::mpR ck ca r)=_
  rw[mSet,heq,mset]
  cases eqb k p.1 with
  | true=>rfl
  | false =>
   show(mSet eq (ck k) (ca x) (mpR ck ca r)).map ([ck p.1,ca p.2] :: ·)=_
   rw[ih]; rfl
theorem Qj9 {κ α : Type} {l:List (κ × α)} {k : κ} (eqb : κ → κ → Bool) {ck : κ → V} {ca : α → V} {z0 : α} {zv:Value} {z kx:V} {hp:Option (List D)} {eq:V→V→Option Bool} {ko:Bool} {K:V→Bool→Prop}
  (hko:ko=true) (hh:hp=some [mpD ck ca l]) (hkx:kx=ck k) (heq:∀ a b,eq (ck a) (ck b)=some (eqb a b)) (hz:absV zv=some z) (hle:LeV z (ca z0)) (h:K (ca ((mget eqb k l).getD z0)) (mget eqb k l).isSome) :
  ko=true∧∃ fl ms r z v b,hp=some [.tup [.p (.sl fl ms)]]∧mFind eq kx ms=some r∧absV zv=some z∧LeV (r.getD z) v∧b=r.isSome∧K v b:=by
 subst hkx
 refine⟨hko,false,_,_,z,ca ((mget eqb k l).getD z0),(mget eqb k l).isSome,hh,Qsk heq k l,hz,?_,?_,h⟩
 ·cases mget eqb k l with
  | none=>exact hle
  | some x=>exact .refl _
 ·cases mget eqb k l<;>rfl
theorem Qw4 {κ α : Type} {l:List (κ × α)} {k : κ} {x : α} (eqb : κ → κ → Bool) {ck : κ → V} {ca : α → V} {kx vx:V} {hp:Option (List D)} {eq:V→V→Option Bool} {ko:Bool} {K:Bool→List (List V)→Prop}
  (hko:ko=true) (hh:hp=some [mpD ck ca l]) (hkx:kx=ck k) (hvx:LeV vx (ca x)) (heq:∀ a b,eq (ck a) (ck b)=some (eqb a b)) (h:K false (mpR ck ca (mset eqb k x l))) :
  ko=true∧∃ fl ms ms' v,hp=some [.tup [.p (.sl fl ms)]]∧LeV vx v∧mSet eq kx v ms=some ms' ∧ K fl ms' := by
 subst hkx
 exact⟨hko,false,_,_,ca x,hh,hvx,Quy heq k x l,h⟩
end Go.Proofs.Ytfgegilhjlnohaa
end

section
namespace Go.Proofs.Ytfgegilhjlnohaa
open Go.RowKit Go.Sort Go.Shelf
theorem deleteFnT {P:Program} {ρ : Ren} (L:Lays2.n24 P ρ) (hfn:isFn P (ρ.f 24)=true) (ss:List (List UInt8)) (i j:Nat) (hij:i<j) (hj:j≤ss.length):FnT P (ρ.f 24) #[.int .i64 i,.int .i64 j] true ss (ss.take i++ss.drop j):=by
 have hl:(ss.take i++ss.drop j).length=ss.length-(j-i):=by simp; omega
 refine⟨hfn,by omega,fun h=>(nomatch h),fun w a cap h1 h2=>⟨fun h0=>by omega,fun b us e ha hus hc hS=>?_⟩⟩
 subst ha
 refine(Any.slices_Delete_string L b 0 cap i j ss w hS.holds h1 h2 (by omega) hj).mono fun en w' ⟨he,q,hw⟩=>⟨by rw[he,hl]; rfl,?_⟩
 have:=Qi9 hS hus q (ss.take i++ss.drop j++List.replicate (j-i) []).toArray (by simp; have:=hS.len; omega) (ss.take i++ss.drop j) (fun k s hk=>by
  have hlt:=(List.getElem?_eq_some_iff.1 hk).1
  rw[List.getElem?_toArray,List.getElem?_append_left hlt]; exact hk) #[]
 rw[hw]
 simpa using this
noncomputable def srtL (ss:List (List UInt8)):List (List UInt8):=ss.mergeSort fun x y=>decide (x≤y)
noncomputable def delL (ss:List (List UInt8)) (i j:Int):List (List UInt8):=ss.take i.toNat++ss.drop j.toNat
theorem sortFn {ss:List (List UInt8)} (h:ss.length<4611686018427387904):FnT Try.prog 16 #[] false ss (srtL ss):=sortFnT Try.lays190 (by kernel_rfl) ss h
theorem compactFn {ss:List (List UInt8)} (h:ss.length<4611686018427387904):FnT Try.prog 17 #[] true ss (Lib.compact ss):=compactFnT Try.lays194 (by kernel_rfl) ss h
theorem deleteFn (i j:Int) {ss:List (List UInt8)} (_:ss.length<4611686018427387904) (h1:0≤i) (h2:i<j) (h3:j≤(ss.length:Int)):FnT Try.prog 34 #[.int .i64 i,.int .i64 j] true ss (delL ss i j):=by
 have:=deleteFnT Try.laysNm224 (by kernel_rfl) ss i.toNat j.toNat (by omega) (by omega)
 rw[Int.toNat_of_nonneg h1,Int.toNat_of_nonneg (by omega)] at this
 exact this
end Go.Proofs.Ytfgegilhjlnohaa
end

section
namespace Go.Proofs.Ytfgegilhjlnohaa
open Go.RowKit
def dv (c:UInt8):Nat:=c.toNat-48
def val (l:List UInt8):Nat:=l.foldl (fun u c=>u*10+dv c) 0
end Go.Proofs.Ytfgegilhjlnohaa
end
