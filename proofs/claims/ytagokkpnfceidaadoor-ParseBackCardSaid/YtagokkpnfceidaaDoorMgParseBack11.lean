/- The proof's texts, part 11 of 12: the walks by a logic in which data are by value, the plain laws, and at the end the law, for every input. -/
import Derived.Test.YtagokkpnfceidaaDoorMgParseBack10

section
namespace Go.Proofs.YtagokkpnfceidaaDoor
open Go.RowKit
def utfF:Nat→List UInt8→Bool
 | 0,_=>true
 | n+1,l=>match l with
  | []=>true
  | _::_=>if(nextP l).1=65533∧(nextP l).2=1 then false else utfF n (l.drop (nextP l).2)
theorem Qsi (n:Nat) (l:List UInt8) (h:l≠[]):utfF (n+1) l=if(nextP l).1=65533∧(nextP l).2=1 then false else utfF n (l.drop (nextP l).2):=by
 cases l with
 | nil=>exact absurd rfl h
 | cons c r=>rfl
theorem badI (p:Nat×Nat):(if(((p.1:Nat):Int)==65533)=true then some (((p.2:Nat):Int)==1) else some false:Option Bool)=some (decide (p.1=65533∧p.2=1)):=by
 have a:=eqN p.1 65533
 have b:=eqN p.2 1
 rw[show(65533:Int)=((65533:Nat):Int) from rfl,show(1:Int)=((1:Nat):Int) from rfl,a,b]
 by_cases h1:p.1=65533
 ·rw[beq_iff_eq.2 h1,if_pos rfl]
  by_cases h2:p.2=1
  ·rw[beq_iff_eq.2 h2,decide_eq_true ⟨h1,h2⟩]
  ·rw[beq_eq_false_iff_ne.2 h2,decide_eq_false (fun h=>h2 h.2)]
 ·rw[beq_eq_false_iff_ne.2 h1,if_neg (by decide),decide_eq_false (fun h=>h1 h.1)]
theorem rIsU (s:List UInt8) (hs:s.length<9000000000000):∀ n k,k≤s.length→s.length-k≤n→Qgh s k=some (if utfF n (s.drop k)=true then .inl () else .inr ()):=by
 intro n
 induction n with
 | zero =>
  intro k h1 h2
  rw[Qgh,ltI,decide_eq_false (by omega:¬ k<s.length)]
  rfl
 | succ n ih =>
  intro k h1 h2
  by_cases hk:k<s.length
  ·have hne:s.drop k≠[]:=by rw[dropE hk]; exact List.cons_ne_nil _ _
   obtain⟨z1,z2⟩:=Qpv _ hne
   rw[List.length_drop] at z2
   have ew:wr ((k:Int)+((nextP (s.drop k)).2:Int))=((k+(nextP (s.drop k)).2:Nat):Int):=by rw[wr_in (by omega) (by omega)]; rfl
   rw[Qgh,ltI,decide_eq_true hk,rNext s k hk hs]
   simp only[if_true,Qad]
   rw[badI (nextP (s.drop k)),ew,ih _ (by omega) (by omega),Qsi n _ hne,List.drop_drop]
   by_cases hb:(nextP (s.drop k)).1=65533∧(nextP (s.drop k)).2=1
   ·rw[decide_eq_true hb,if_pos hb]; rfl
   ·rw[decide_eq_false hb,if_neg hb]; rfl
  ·rw[Qgh,ltI,decide_eq_false hk,List.drop_eq_nil_of_le (by omega)]
   rfl
theorem rUtf (s:List UInt8) (hs:s.length<9000000000000):Qx4 s=some (utfF s.length s):=by
 have:=rIsU s hs s.length 0 (by omega) (by omega)
 rw[Qx4,show(0:Int)=((0:Nat):Int) from rfl,this,List.drop_zero]
 cases utfF s.length s<;>rfl
def qb (c:UInt8):List UInt8:=if c=10 then [92,110] else if c=9 then [92,116] else if c=34∨c=92 then [92,c] else [c]
def qs (s:List UInt8):List UInt8:=s.flatMap qb
theorem Q6i (c:UInt8):(qb c).length≤2:=by unfold qb; split; simp; split; simp; split<;>simp
theorem Q6j:∀ s:List UInt8,(qs s).length≤2*s.length
 | []=>by simp[qs]
 | c::r=>by
  have:=Q6j r
  have:=Q6i c
  simp[qs] at *
  omega
theorem eqC (c:UInt8) (k:Nat) (hk:k<256):((c.toNat:Int)==(k:Int))=decide (c=UInt8.ofNat k):=by
 rw[eqN]
 by_cases h:c.toNat=k
 ·rw[beq_iff_eq.2 h,decide_eq_true]
  apply UInt8.toNat_inj.1
  rw[h,UInt8.toNat_ofNat', Nat.mod_eq_of_lt hk]
 ·rw[beq_eq_false_iff_ne.2 h,decide_eq_false]
  intro e; apply h; rw[e,UInt8.toNat_ofNat', Nat.mod_eq_of_lt hk]
theorem rQuoteL (s:List UInt8) (hs:s.length≤1000000):∀ k,k≤s.length→∀ acc:List UInt8,acc.length≤2*k+1→Qcx s acc k=some (if(s.drop k).any (· == 13)=true then .inr () else .inl (acc++qs (s.drop k))):=by
 refine upto ?_ fun k hk ih=>?_
 ·intro acc _
  rw[Qcx]; simp[qs]
 ·intro acc ha
  have ec:cutL s k (wr ((k:Int)+1))=some [s[k]]:=by
   rw[Qbt (by omega),Qjq (by omega) (by omega) (by omega),Int.toNat_natCast,Int.toNat_natCast]
   congr 1
   rw[List.drop_take,dropE hk]
   have:k+1-k=1:=by omega
   rw[this]; rfl
  have eq:qs (s.drop k)=qb s[k]++qs (s.drop (k+1)):=by rw[dropE hk]; rfl
  have eany:(s.drop k).any (· == 13)=(s[k]==13||(s.drop (k+1)).any (· == 13)):=by rw[dropE hk]; rfl
  have e1:∀ b:UInt8,(([s[k]]:List UInt8)==[b])=decide (s[k]=b):=fun b=>by
   rw[List.cons_beq_cons]
   by_cases h:s[k]=b
   ·rw[decide_eq_true h,beq_iff_eq.2 h]; rfl
   ·rw[decide_eq_false h,beq_eq_false_iff_ne.2 h]; rfl
  have hq:=Q6i s[k]
  rw[Qcx,ec,Qbt (by omega),eany,eq]
  simp only[ltI,hk,decide_true,if_true,Qad,e1]
  by_cases h13:s[k]=13
  ·rw[decide_eq_true h13,beq_iff_eq.2 h13]; rfl
  rw[decide_eq_false h13,beq_eq_false_iff_ne.2 h13]
  have n1:need (([92]:List UInt8).length+[s[k]].length≤9223372036854775807)=some ():=Qay (by simp)
  have step:∀ w:List UInt8,qb s[k]=w→(need (acc.length+w.length≤9223372036854775807)>>=fun _=>Qcx s (acc++w) ((k+1:Nat):Int))=some (if(s.drop (k+1)).any (· == 13)=true then .inr () else .inl (acc++(qb s[k]++qs (s.drop (k+1))))):=fun w hw=>by
   rw[Qay (by rw[← hw]; omega),Qad,ih _ (by rw[List.length_append,← hw]; omega),hw,List.append_assoc]
  simp only[Bool.false_eq_true,if_false,Bool.false_or,n1,Qad]
  by_cases h10:s[k]=10
  ·rw[decide_eq_true h10]
   exact step [92,110] (by unfold qb; rw[if_pos h10])
  rw[decide_eq_false h10]
  by_cases h9:s[k]=9
  ·rw[decide_eq_true h9]
   exact step [92,116] (by unfold qb; rw[if_neg h10,if_pos h9])
  rw[decide_eq_false h9]
  by_cases h34:s[k]=34
  ·rw[decide_eq_true h34]
   exact step ([92]++[s[k]]) (by unfold qb; rw[if_neg h10,if_neg h9,if_pos (show s[k]=34∨s[k]=92 from .inl h34)]; rfl)
  rw[decide_eq_false h34]
  by_cases h92:s[k]=92
  ·rw[decide_eq_true h92]
   exact step ([92]++[s[k]]) (by unfold qb; rw[if_neg h10,if_neg h9,if_pos (show s[k]=34∨s[k]=92 from .inr h92)]; rfl)
  ·rw[decide_eq_false h92]
   exact step [s[k]] (by unfold qb; rw[if_neg h10,if_neg h9,if_neg (show ¬ (s[k]=34∨s[k]=92) from fun q=>q.elim h34 h92)])
def quoV (s:List UInt8):List UInt8×Bool:=if utfF s.length s=true∧s.any (· == 13)=false then([34]++qs s++[34],true) else([],false)
theorem quoteR (s:List UInt8) (hs:s.length≤1000000):Qgi s=some (quoV s)∧(quoV s).1.length≤2*s.length+2:=by
 unfold quoV
 have hl:=Q6j s
 have r:=rQuoteL s hs 0 (by omega) [34] (by simp)
 rw[List.drop_zero] at r
 refine⟨?_,?_⟩
 ·rw[Qgi,rUtf s (by omega)]
  cases hu:utfF s.length s with
  | false=>rfl
  | true =>
   simp only[Qad,Bool.not_true,Bool.false_eq_true,if_false]
   rw[show(0:Int)=((0:Nat):Int) from rfl,r]
   cases ha:s.any (· == 13) with
   | true=>rfl
   | false =>
    simp only[Bool.false_eq_true,if_false,Qad,and_self,if_true]
    rw[Qay (by simp; omega)]
    rfl
 ·split
  ·simp; omega
  ·simp
end Go.Proofs.YtagokkpnfceidaaDoor
end

section
namespace Go.Proofs.YtagokkpnfceidaaDoor
open Go.RowKit
def blB (c:UInt8):Bool:=c.toNat==32||(c.toNat==9||(c.toNat==10||c.toNat==13))
def two (a b:UInt8):List UInt8→Bool
 | c::d::_=>c==a&&d==b
 | _=>false
theorem Q1q {s:List UInt8} {k:Nat} {t r:List UInt8} (h:s.drop k=t++r):s.drop (k+t.length)=r∧(k≤s.length→k+t.length≤s.length):=by
 constructor
 ·rw[← List.drop_drop,h,List.drop_left]
 ·intro hk
  have:=congrArg List.length h
  rw[List.length_drop,List.length_append] at this
  omega
def sgP (c:UInt8):Option Int:=if c=46 then some 7 else if c=40 then some 8 else if c=41 then some 9 else if c=44 then some 10 else if c=61 then some 11 else none
theorem contI {c:UInt8} (h:contB c=true):128≤c.toNat∧c.toNat<192:=by simpa [contB] using h
theorem Qsj (c:UInt8) (t:List UInt8) (hc:128≤c.toNat) (hg:¬ ((nextC c t).1=65533∧(nextC c t).2=1)):∃ w rest,c::t=w++rest∧(nextC c t).2=w.length∧2≤w.length∧(∀ b ∈ w,128≤b.toNat)∧128≤(nextC c t).1∧∀ r,nextP (w++r)=nextC c t:=by
 have hn:¬ c.toNat<128:=by omega
 by_cases h2:192≤c.toNat∧c.toNat<224
 ·cases t with
  | nil=>exfalso; apply hg; unfold nextC; rw[if_neg hn,if_pos h2]; exact⟨rfl,rfl⟩
  | cons c1 t =>
   by_cases hk:contB c1=true∧128≤(c.toNat-192)*64+(c1.toNat-128)
   ·have e:∀ r,nextC c (c1::r)=((c.toNat-192)*64+(c1.toNat-128),2):=fun r=>by unfold nextC; rw[if_neg hn,if_pos h2]; simp only; rw[if_pos hk]
    have:=contI hk.1
    refine⟨[c,c1],t,rfl,by rw[e]; rfl,by simp,?_,by rw[e]; exact hk.2,fun r=>(e r).trans (e t).symm⟩
    intro b hb
    simp at hb
    rcases hb with rfl | rfl<;>omega
   ·exfalso; apply hg; unfold nextC; rw[if_neg hn,if_pos h2]; simp only; rw[if_neg hk]; exact⟨rfl,rfl⟩
 by_cases h3:224≤c.toNat∧c.toNat<240
 ·rcases t with _ | ⟨c1,_ | ⟨c2,t⟩⟩
  ·exfalso; apply hg; unfold nextC; rw[if_neg hn,if_neg h2,if_pos h3]; exact⟨rfl,rfl⟩
  ·exfalso; apply hg; unfold nextC; rw[if_neg hn,if_neg h2,if_pos h3]; exact⟨rfl,rfl⟩
  ·by_cases hk:contB c1=true∧contB c2=true∧2048≤((c.toNat-224)*64+(c1.toNat-128))*64+(c2.toNat-128)∧runeB (((c.toNat-224)*64+(c1.toNat-128))*64+(c2.toNat-128))=true
   ·have e:∀ r,nextC c (c1::c2::r)=(((c.toNat-224)*64+(c1.toNat-128))*64+(c2.toNat-128),3):=fun r=>by unfold nextC; rw[if_neg hn,if_neg h2,if_pos h3]; simp only; rw[if_pos hk]
    have:=contI hk.1
    have:=contI hk.2.1
    refine⟨[c,c1,c2],t,rfl,by rw[e]; rfl,by simp,?_,by rw[e]; have:=hk.2.2.1; simp only; omega,fun r=>(e r).trans (e t).symm⟩
    intro b hb
    simp at hb
    rcases hb with rfl | rfl | rfl<;>omega
   ·exfalso; apply hg; unfold nextC; rw[if_neg hn,if_neg h2,if_pos h3]; simp only; rw[if_neg hk]; exact⟨rfl,rfl⟩
 by_cases h4:240≤c.toNat∧c.toNat<248
 ·rcases t with _ | ⟨c1,_ | ⟨c2,_ | ⟨c3,t⟩⟩⟩
  ·exfalso; apply hg; unfold nextC; rw[if_neg hn,if_neg h2,if_neg h3,if_pos h4]; exact⟨rfl,rfl⟩
  ·exfalso; apply hg; unfold nextC; rw[if_neg hn,if_neg h2,if_neg h3,if_pos h4]; exact⟨rfl,rfl⟩
  ·exfalso; apply hg; unfold nextC; rw[if_neg hn,if_neg h2,if_neg h3,if_pos h4]; exact⟨rfl,rfl⟩
  ·by_cases hk:contB c1=true∧contB c2=true∧contB c3=true∧65536≤(((c.toNat-240)*64+(c1.toNat-128))*64+(c2.toNat-128))*64+(c3.toNat-128)∧runeB ((((c.toNat-240)*64+(c1.toNat-128))*64+(c2.toNat-128))*64+(c3.toNat-128))=true
   ·have e:∀ r,nextC c (c1::c2::c3::r)=((((c.toNat-240)*64+(c1.toNat-128))*64+(c2.toNat-128))*64+(c3.toNat-128),4):=fun r=>by unfold nextC; rw[if_neg hn,if_neg h2,if_neg h3,if_pos h4]; simp only; rw[if_pos hk]
    have:=contI hk.1
    have:=contI hk.2.1
    have:=contI hk.2.2.1
    refine⟨[c,c1,c2,c3],t,rfl,by rw[e]; rfl,by simp,?_,by rw[e]; have:=hk.2.2.2.1; simp only; omega,fun r=>(e r).trans (e t).symm⟩
    intro b hb
    simp at hb
    rcases hb with rfl | rfl | rfl | rfl<;>omega
   ·exfalso; apply hg; unfold nextC; rw[if_neg hn,if_neg h2,if_neg h3,if_pos h4]; simp only; rw[if_neg hk]; exact⟨rfl,rfl⟩
 ·exfalso; apply hg; unfold nextC; rw[if_neg hn,if_neg h2,if_neg h3,if_neg h4]; exact⟨rfl,rfl⟩
theorem Q7e (a b:List UInt8):qs (a++b)=qs a++qs b:=by simp[qs]
theorem Q4o:∀ w:List UInt8,(∀ b ∈ w,128≤b.toNat)→qs w=w
 | [],_=>rfl
 | c::t,h=>by
  have hc:=h c (List.mem_cons_self ..)
  have e:qb c=[c]:=by
   unfold qb
   have ne:∀ d:UInt8,d.toNat<128→c≠d:=fun d hd e=>by subst e; omega
   rw[if_neg (ne 10 (by decide)),if_neg (ne 9 (by decide)),if_neg (by intro q; rcases q with q | q; exact ne 34 (by decide) q; exact ne 92 (by decide) q)]
  have ih:=Q4o t fun b hb=>h b (List.mem_cons_of_mem _ hb)
  show qb c++qs t=_
  rw[e,ih]; rfl
end Go.Proofs.YtagokkpnfceidaaDoor
end

section
namespace Go.Proofs.YtagokkpnfceidaaDoor
open Go.RowKit
def blN (l:List UInt8):Nat:=(l.takeWhile blB).length
theorem Qlb (c:UInt8) (r:List UInt8):blN (c::r)=if blB c then 1+blN r else 0:=by
 unfold blN
 rw[List.takeWhile_cons]
 split
 ·rw[List.length_cons]; omega
 ·rfl
theorem Qqa:∀ l:List UInt8,blN l≤l.length
 | []=>Nat.le_refl _
 | c::r=>by
  have:=Qqa r
  rw[Qlb,List.length_cons]; split<;>omega
theorem blC (c:UInt8):([32,9,10,13]:List UInt8).contains c=blB c:=by
 have e:∀ d:UInt8,(c==d)=(c.toNat==d.toNat):=fun d=>by
  rw[Bool.eq_iff_iff,beq_iff_eq,beq_iff_eq]
  exact⟨fun h=>by rw[h],fun h=>UInt8.toNat_inj.1 h⟩
 rw[List.contains_cons,List.contains_cons,List.contains_cons,List.contains_cons,List.contains_nil,e,e,e,e,Bool.or_false]
 rfl
theorem trimN:∀ l:List UInt8,(Lib.trimLeftS l [32,9,10,13]).length=l.length-blN l
 | []=>rfl
 | c::r=>by
  have ih:=trimN r
  have hle:=Qqa r
  unfold Lib.trimLeftS at ih ⊢
  rw[List.dropWhile_cons,blC,Qlb,List.length_cons]
  split
  ·rw[ih]; omega
  ·rw[List.length_cons]; omega
theorem lBl (s:List UInt8) (k:Nat) (hk:k≤s.length) (hs:s.length≤65536) (toks:List Qab):Qb1 s k toks=some ((k+blN (s.drop k):Nat):Int):=by
 have h:=trimN (s.drop k)
 have hle:=Qqa (s.drop k)
 rw[List.length_drop] at h hle
 rw[Qb1,Qjq (by omega) (by omega) (by omega),Qad,Qfc,Qay (by decide),Qad,Qay (by decide),Qad,Qad]
 have e:(s.take (s.length:Int).toNat).drop ((k:Int)).toNat=s.drop k:=by simp
 rw[e,h,wr_in (by omega) (by omega)]
 congr 1
 omega
def fnd (a b:UInt8):List UInt8→Nat
 | []=>0
 | c::r=>if two a b (c::r) then 0 else 1+fnd a b r
theorem Quf (a b:UInt8):∀ l:List UInt8,fnd a b l≤l.length
 | []=>Nat.le_refl _
 | c::r=>by
  have:=Quf a b r
  rw[fnd,List.length_cons]; split<;>omega
theorem Q0k {a b:UInt8} {l:List UInt8} (h:two a b l=true):2≤l.length:=by
 match l,h with
 | c::d::r,_=>simp
theorem Q6k (a b:UInt8):∀ l:List UInt8,fnd a b l<l.length→two a b (l.drop (fnd a b l))=true
 | [],h=>by simp at h
 | c::r,h=>by
  rw[fnd] at h ⊢
  by_cases ht:two a b (c::r)=true
  ·rw[if_pos ht]; exact ht
  ·rw[if_neg ht,List.length_cons] at h
   rw[if_neg ht,Nat.add_comm,List.drop_succ_cons]
   exact Q6k a b r (by omega)
theorem preTwo (a b:UInt8) (l:List UInt8):[a,b].isPrefixOf l=two a b l:=by
 match l with
 | []=>rfl
 | [c]=>simp[List.isPrefixOf,two]
 | c::d::r =>
  show(a==c&&(b==d&&true))=(c==a&&d==b)
  rw[Bool.and_true,Bool.beq_comm (a:=a),Bool.beq_comm (a:=b)]
theorem lIdx (a b:UInt8):∀ l:List UInt8,Lib.index l [a,b]=if fnd a b l<l.length then(fnd a b l:Int) else -1
 | []=>rfl
 | c::r=>by
  have ih:=lIdx a b r
  have hle:=Quf a b r
  unfold Lib.index
  rw[preTwo,ih,fnd,List.length_cons]
  by_cases ht:two a b (c::r)=true
  ·rw[if_pos ht,if_pos ht,if_pos (by omega)]; rfl
  ·rw[if_neg ht,if_neg ht]
   by_cases hf:fnd a b r<r.length
   ·have h1:(((fnd a b r:Nat):Int) == -1)=false:=by rw[beq_eq_false_iff_ne]; omega
    rw[if_pos hf,h1,if_neg (show ¬ (false=true) by decide),if_pos (show 1+fnd a b r<r.length+1 by omega)]
    omega
   ·rw[if_neg hf,if_pos (show((-1:Int) == -1)=true from rfl),if_neg (show ¬ 1+fnd a b r<r.length+1 by omega)]
def oneB (a:UInt8):List UInt8→Bool
 | c::_=>c==a
 | []=>false
theorem lBeg (s p:List UInt8) (k:Nat) (hk:k≤s.length) (hs:s.length≤65536) (hp:p.length≤65536):Qdm s p k=some ((s.drop k).take p.length==p&&decide (p.length≤s.length-k)):=by
 have e:(s.take (s.length:Int).toNat).drop ((k:Int)).toNat=s.drop k:=by simp
 rw[Qdm,decide_eq_true (by omega),if_pos rfl,decide_eq_true (by omega),if_pos rfl,Qjq (by omega) (by omega) (by omega),Qad,e,strings_HasPrefix,Qbq]
 by_cases h:p.length≤s.length-k
 ·rw[decide_eq_true (by rw[List.length_drop]; omega),if_pos rfl,Qjq (by omega) (by omega) (by rw[List.length_drop]; omega),decide_eq_true h]
  simp
 ·rw[decide_eq_false (by rw[List.length_drop]; omega),if_neg (by decide),decide_eq_false h,Bool.and_false]
  rfl
theorem lBeg2 (a b:UInt8) (s:List UInt8) (k:Nat) (hk:k≤s.length) (hs:s.length≤65536):Qdm s [a,b] k=some (two a b (s.drop k)):=by
 rw[lBeg s [a,b] k hk hs (by simp)]
 have hl:(s.drop k).length=s.length-k:=List.length_drop
 generalize s.drop k=l at hl
 rw[← hl]
 match l with
 | []=>rfl
 | [c]=>simp[two]
 | c::d::r =>
  congr 1
  rw[decide_eq_true (by simp),Bool.and_true]
  show([c,d]==[a,b])=_
  rw[List.cons_beq_cons,List.cons_beq_cons]
  show(c==a&&(d==b&&true))=_
  rw[Bool.and_true]; rfl
theorem lBeg1 (a:UInt8) (s:List UInt8) (k:Nat) (hk:k≤s.length) (hs:s.length≤65536):Qdm s [a] k=some (oneB a (s.drop k)):=by
 rw[lBeg s [a] k hk hs (by simp)]
 have hl:(s.drop k).length=s.length-k:=List.length_drop
 generalize s.drop k=l at hl
 rw[← hl]
 match l with
 | []=>rfl
 | c::r =>
  congr 1
  rw[decide_eq_true (by simp),Bool.and_true]
  show([c]==[a])=_
  rw[List.cons_beq_cons]
  show(c==a&&true)=_
  rw[Bool.and_true]; rfl
def escP (c:UInt8):Option UInt8:=if c=110 then some 10 else if c=116 then some 9 else if c=34∨c=92 then some c else none
abbrev badR (l:List UInt8):Prop:=(nextP l).1=10∨(nextP l).1=13∨((nextP l).1=65533∧(nextP l).2=1)
def escR (f:List UInt8→Option (List UInt8×Nat)):List UInt8→Option (List UInt8×Nat)
 | []=>none
 | d::r=>match escP d with
  | some e=>(f r).map fun q=>(e::q.1,q.2+2)
  | none=>none
def quoP:Nat→List UInt8→Option (List UInt8×Nat)
 | 0,_=>none
 | _+1,[]=>none
 | n+1,c::r =>
  if c=34 then some ([],1)
  else if c=92 then escR (quoP n) r
  else if badR (c::r) then none
  else(quoP n ((c::r).drop (nextP (c::r)).2)).map fun q=>((c::r).take (nextP (c::r)).2++q.1,(nextP (c::r)).2+q.2)
theorem Qgq (n:Nat) (c:UInt8) (r:List UInt8):quoP (n+1) (c::r)=if c=34 then some ([],1) else if c=92 then escR (quoP n) r else if badR (c::r) then none
  else(quoP n ((c::r).drop (nextP (c::r)).2)).map fun q=>((c::r).take (nextP (c::r)).2++q.1,(nextP (c::r)).2+q.2):=rfl
theorem Qpw:∀ (n:Nat) (l:List UInt8) (q:List UInt8×Nat),quoP n l=some q→1≤q.2∧q.2≤l.length∧q.1.length≤l.length
 | 0,l,q,h=>by simp[quoP] at h
 | n+1,[],q,h=>by simp[quoP] at h
 | n+1,c::r,q,h=>by
  rw[Qgq] at h
  split at h
  ·cases h; simp
  ·split at h
   ·cases r with
    | nil=>cases h
    | cons d r' =>
     rw[escR] at h
     split at h
     ·obtain⟨q', h1,rfl⟩:=Option.map_eq_some_iff.1 h
      have:=Qpw n r' q' h1
      simp only[List.length_cons] at this ⊢
      omega
     ·cases h
   ·split at h
    ·cases h
    ·obtain⟨q', h1,rfl⟩:=Option.map_eq_some_iff.1 h
     obtain⟨z1,z2⟩:=Qpv (c::r) (List.cons_ne_nil _ _)
     have:=Qpw n _ q' h1
     rw[List.length_drop] at this
     simp only[List.length_append,List.length_take]
     omega
theorem badT (l:List UInt8):(if((((nextP l).1:Nat):Int)==10)=true then some true else if((((nextP l).1:Nat):Int)==13)=true then some true else if((((nextP l).1:Nat):Int)==65533)=true then some ((((nextP l).2:Nat):Int)==1) else some false:Option Bool)=some (decide (badR l)):=by
 have h:=badI (nextP l)
 rw[h]
 have a:=eqN (nextP l).1 10
 have b:=eqN (nextP l).1 13
 rw[show(10:Int)=((10:Nat):Int) from rfl,show(13:Int)=((13:Nat):Int) from rfl,a,b]
 unfold badR
 by_cases h1:(nextP l).1=10
 ·rw[beq_iff_eq.2 h1,if_pos rfl,decide_eq_true (.inl h1)]
 ·rw[beq_eq_false_iff_ne.2 h1,if_neg (by decide)]
  by_cases h2:(nextP l).1=13
  ·rw[beq_iff_eq.2 h2,if_pos rfl,decide_eq_true (.inr (.inl h2))]
  ·rw[beq_eq_false_iff_ne.2 h2,if_neg (by decide)]
   by_cases h3:(nextP l).1=65533∧(nextP l).2=1
   ·rw[decide_eq_true h3,decide_eq_true (.inr (.inr h3))]
   ·rw[decide_eq_false h3,decide_eq_false (fun h=>by rcases h with h | h | h; exact h1 h; exact h2 h; exact h3 h)]
theorem cutN {s:List UInt8} {k m:Nat} (h:k+m≤s.length):cutL s k ((k+m:Nat):Int)=some ((s.drop k).take m):=by
 rw[Qjq (by omega) (by omega) (by omega),Int.toNat_natCast,Int.toNat_natCast,List.drop_take,Nat.add_sub_cancel_left]
theorem r92 (c:UInt8) (r:List UInt8):(((nextP (c::r)).1:Nat):Int)==92↔c=92:=by
 rw[beq_iff_eq]
 constructor
 ·intro h
  by_cases hc:c.toNat<128
  ·have e:nextP (c::r)=(c.toNat,1):=by rw[nextP]; unfold nextC; rw[if_pos hc]
   rw[e] at h
   exact UInt8.toNat_inj.1 (show c.toNat=92 from Int.ofNat.inj h)
  ·exfalso
   by_cases hb:(nextC c r).1=65533∧(nextC c r).2=1
   ·have:(nextP (c::r)).1=65533:=hb.1
    omega
   ·obtain⟨w,rest,-,-,-,-,hv,-⟩:=Qsj c r (by omega) hb
    have:128≤(nextP (c::r)).1:=hv
    omega
 ·rintro rfl; rfl
theorem escL (c:UInt8):Qi7 (c.toNat:Int)=some (match escP c with | some e=>((e.toNat:Int),true) | none=>((c.toNat:Int),false)):=by
 have a:((c.toNat:Int)==110)=decide (c=110):=eqC c 110 (by omega)
 have b:((c.toNat:Int)==116)=decide (c=116):=eqC c 116 (by omega)
 have d:((c.toNat:Int)==34)=decide (c=34):=eqC c 34 (by omega)
 have e:((c.toNat:Int)==92)=decide (c=92):=eqC c 92 (by omega)
 rw[Qi7,a,b,d,e]
 unfold escP
 by_cases h1:c=110
 ·subst h1; rfl
 by_cases h2:c=116
 ·subst h2; rfl
 rw[decide_eq_false h1,decide_eq_false h2,if_neg h1,if_neg h2]
 by_cases h3:c=34
 ·subst h3; rfl
 by_cases h4:c=92
 ·subst h4; rfl
 rw[decide_eq_false h3,decide_eq_false h4,if_neg (show ¬ (c=34∨c=92) by rintro (h | h); exact h3 h; exact h4 h)]
 rfl
theorem lQuoL (s:List UInt8) (hs:s.length≤65536) (at0:Int) (toks:List Qab) (fl:Bool):∀ (n k:Nat) (acc:List UInt8),k≤s.length→s.length-k<n→acc.length≤k →
  ∃ o,Qa5 s at0 toks k fl (s2b acc)=some o∧(match quoP n (s.drop k) with
   | some q=>∃ f,o = .inl (((k+q.2-1:Nat):Int),f,s2b (acc++q.1))
   | none=>(∃ y,o = .inr y)∨∃ f b,o = .inl ((s.length:Int),f,b)):=by
 intro n
 induction n generalizing fl with
 | zero=>intro k acc h1 h2; omega
 | succ n ih =>
  intro k acc h1 h2 h3
  rcases Nat.lt_or_ge k s.length with hk | hk
  ·have hne:s.drop k≠[]:=by rw[dropE hk]; exact List.cons_ne_nil _ _
   obtain⟨z1,z2⟩:=Qpv _ hne
   rw[List.length_drop] at z2
   have e34:((s[k].toNat:Int) != 34) = !decide (s[k]=34):=by
    have:((s[k].toNat:Int)==34)=decide (s[k]=34):=eqC s[k] 34 (by omega)
    rw[bne,this]
   have ew:wr ((k:Int)+((nextP (s.drop k)).2:Int))=((k+(nextP (s.drop k)).2:Nat):Int):=by rw[wr_in (by omega) (by omega)]; rfl
   have ew2:wr ((k:Int)+2)=((k+2:Nat):Int):=by rw[wr_in (by omega) (by omega)]; rfl
   rw[Qa5,ltI,decide_eq_true hk,if_pos rfl,Qbr,getE hk,Qad,Qad,e34]
   by_cases h34:s[k]=34
   ·rw[decide_eq_true h34,Bool.not_true,if_neg (by decide)]
    refine⟨_,rfl,?_⟩
    rw[dropE hk,Qgq,if_pos h34]
    exact⟨fl,by simp⟩
   ·rw[decide_eq_false h34,Bool.not_false,if_pos rfl,tNext s k hk (by omega),Qad]
    have hr92:=r92 s[k] (s.drop (k+1))
    rw[← dropE hk] at hr92
    by_cases h92:s[k]=92
    ·rw[if_pos (hr92.2 h92),Qbt (by omega)]
     rcases Nat.lt_or_ge (k+1) s.length with hk1 | hk1
     ·have en:(((k+1:Nat):Int)==(s.length:Int))=false:=beq_eq_false_iff_ne.2 (by omega)
      have hd:s.drop k=92::s[k+1]::s.drop (k+2):=by rw[dropE hk,dropE hk1,h92]
      rw[en,if_neg (by decide),Qbr,getE hk1,Qad,escL,Qad,hd,Qgq,if_neg (show ¬ (92:UInt8)=34 by decide),if_pos rfl,escR]
      cases hE:escP s[k+1] with
      | none =>
       simp only[Bool.not_false,if_true]
       exact⟨_,rfl,.inl ⟨_,rfl⟩⟩
      | some e =>
       simp only[Bool.not_true,Bool.false_eq_true,if_false]
       have hwb:Qbl (e.toNat:Int) fl (s2b acc)=some ((),true,s2b (acc++[e])):=by
        rw[Qbl,Qa6,Qad,Qlu (by rw[Qpu]; simp; omega) (by rw[Qpu]; simp; omega),Qad,Q0g]
        rfl
       rw[hwb,Qad,ew2]
       obtain⟨o,o1,o2⟩:=ih true (k+2) (acc++[e]) (by omega) (by omega) (by simp; omega)
       refine⟨o,o1,?_⟩
       cases hq:quoP n (s.drop (k+2)) with
       | none=>rw[hq] at o2; exact o2
       | some q =>
        rw[hq] at o2
        obtain⟨f,o2⟩:=o2
        obtain⟨q1,-⟩:=Qpw n _ q hq
        refine⟨f,?_⟩
        rw[o2]
        simp only[Option.map_some,List.append_assoc,List.singleton_append]
        congr 3
        omega
     ·have en:(((k+1:Nat):Int)==(s.length:Int))=true:=beq_iff_eq.2 (by omega)
      rw[en,if_pos rfl]
      refine⟨_,rfl,?_⟩
      have hd:s.drop k=[92]:=by rw[dropE hk,h92,List.drop_eq_nil_of_le (by omega)]
      rw[hd,Qgq,if_neg (show ¬ (92:UInt8)=34 by decide),if_pos rfl]
      exact .inl ⟨_,rfl⟩
    ·rw[if_neg (fun h=>h92 (hr92.1 h))]
     simp only
     rw[badT (s.drop k),Qad]
     have hq:quoP (n+1) (s.drop k)=if badR (s.drop k) then none else(quoP n ((s.drop k).drop (nextP (s.drop k)).2)).map fun q=>((s.drop k).take (nextP (s.drop k)).2++q.1,(nextP (s.drop k)).2+q.2):=by
      generalize hg:s.drop k=l
      rw[dropE hk] at hg
      subst hg
      rw[Qgq,if_neg h34,if_neg h92]
     rw[hq]
     by_cases hb:badR (s.drop k)
     ·rw[decide_eq_true hb,if_pos rfl,if_pos hb]
      exact⟨_,rfl,.inl ⟨_,rfl⟩⟩
     ·rw[decide_eq_false hb,if_neg (by decide),if_neg hb,ew,cutN (by omega),Qad]
      have hws:Qba ((s.drop k).take (nextP (s.drop k)).2) fl (s2b acc)=some (((((s.drop k).take (nextP (s.drop k)).2).length:Nat):Int),(),true,s2b (acc++(s.drop k).take (nextP (s.drop k)).2)):=by
       have hl:((s.drop k).take (nextP (s.drop k)).2).length≤s.length-k:=by rw[List.length_take,List.length_drop]; omega
       rw[Qba,Qa6,Qad,Qlu (by rw[Qpu,Qpu]; omega) (by rw[Qpu,Qpu]; omega),Qad,Q0g]
      rw[hws,Qad,List.drop_drop]
      obtain⟨o,o1,o2⟩:=ih true (k+(nextP (s.drop k)).2) (acc++(s.drop k).take (nextP (s.drop k)).2) (by omega) (by omega) (by rw[List.length_append,List.length_take]; omega)
      refine⟨o,o1,?_⟩
      cases hq:quoP n (s.drop (k+(nextP (s.drop k)).2)) with
      | none=>rw[hq] at o2; exact o2
      | some q =>
       rw[hq] at o2
       obtain⟨f,o2⟩:=o2
       obtain⟨q1,-⟩:=Qpw n _ q hq
       refine⟨f,?_⟩
       rw[o2]
       simp only[List.append_assoc]
       congr 3
       omega
  ·rw[Qa5,ltI,decide_eq_false (by omega),if_neg (by decide),Qad,if_neg (by decide),List.drop_eq_nil_of_le hk,quoP]
   refine⟨_,rfl,.inr ⟨fl,s2b acc,?_⟩⟩
   have:k=s.length:=by omega
   rw[this]
end Go.Proofs.YtagokkpnfceidaaDoor
end

section
namespace Go.Proofs.YtagokkpnfceidaaDoor
open Go.RowKit
def run (p:UInt8→Bool) (l:List UInt8):Nat:=(l.takeWhile p).length
theorem Qnc (p:UInt8→Bool) (c:UInt8) (r:List UInt8):run p (c::r)=if p c then 1+run p r else 0:=by
 unfold run
 rw[List.takeWhile_cons]
 split
 ·rw[List.length_cons]; omega
 ·rfl
theorem Qyo (p:UInt8→Bool):∀ l:List UInt8,run p l≤l.length
 | []=>Nat.le_refl _
 | c::r=>by
  have:=Qyo p r
  rw[Qnc,List.length_cons]; split<;>omega
theorem lRunD (s:List UInt8) (hs:s.length≤65536) (a:Int) (toks:List Qab):∀ k,k≤s.length→Qaq s a toks k=some ((k+run digB (s.drop k):Nat):Int):=by
 refine upto ?_ fun k hk ih=>?_
 ·rw[Qaq,ltI,decide_eq_false (by omega),if_neg (by decide),Qad,if_neg (by decide),List.drop_length]; rfl
 ·rw[Qaq,ltI,decide_eq_true hk,if_pos rfl,Qbt (by omega),Qbr,getE hk,Qad,lDigit,Qad,Qad,ih,dropE hk,Qnc]
  cases digB s[k] with
  | true=>rw[if_pos rfl,if_pos rfl,Nat.add_assoc]
  | false=>rfl
theorem lRunL (s:List UInt8) (hs:s.length≤65536) (a:Int) (toks:List Qab):∀ k,k≤s.length→Qao s a toks k=some ((k+run letB (s.drop k):Nat):Int):=by
 refine upto ?_ fun k hk ih=>?_
 ·rw[Qao,ltI,decide_eq_false (by omega),if_neg (by decide),Qad,if_neg (by decide),List.drop_length]; rfl
 ·rw[Qao,ltI,decide_eq_true hk,if_pos rfl,Qbt (by omega),Qbr,getE hk,Qad,lLetter,Qad,Qad,ih,dropE hk,Qnc]
  cases letB s[k] with
  | true=>rw[if_pos rfl,if_pos rfl,Nat.add_assoc]
  | false=>rfl
def one18:List UInt8→Option (Int×List UInt8×Int×Nat)
 | []=>none
 | c::r=>match sgP c with
  | some j=>some (j,[],0,1)
  | none =>
   if c=34 then(quoP (r.length+1) r).map fun q=>(5,q.1,0,1+q.2)
   else if smallB c then(if wordP ((c::r).take (1+run letB r)) then some (4,(c::r).take (1+run letB r),0,1+run letB r) else none)
   else if c=45∨digB c=true then(if(numP ((c::r).take (1+run digB r))).2 then some (6,[],(numP ((c::r).take (1+run digB r))).1,1+run digB r) else none)
   else none
theorem Qio (c:UInt8) (r:List UInt8):one18 (c::r)=match sgP c with
  | some j=>some (j,[],0,1)
  | none =>
   if c=34 then(quoP (r.length+1) r).map fun q=>(5,q.1,0,1+q.2)
   else if smallB c then(if wordP ((c::r).take (1+run letB r)) then some (4,(c::r).take (1+run letB r),0,1+run letB r) else none)
   else if c=45∨digB c=true then(if(numP ((c::r).take (1+run digB r))).2 then some (6,[],(numP ((c::r).take (1+run digB r))).1,1+run digB r) else none)
   else none:=rfl
theorem Qsk {l:List UInt8} {o:Int×List UInt8×Int×Nat} (h:one18 l=some o):1≤o.2.2.2∧o.2.2.2≤l.length:=by
 cases l with
 | nil=>cases h
 | cons c r =>
  have a:=Qyo letB r
  have b:=Qyo digB r
  rw[Qio] at h
  split at h
  ·cases h; simp
  ·split at h
   ·obtain⟨q,h1,rfl⟩:=Option.map_eq_some_iff.1 h
    have:=Qpw _ _ _ h1
    simp only[List.length_cons]; omega
   ·split at h
    ·split at h
     ·cases h; simp only[List.length_cons]; omega
     ·cases h
    ·split at h
     ·split at h
      ·cases h; simp only[List.length_cons]; omega
      ·cases h
     ·cases h
def putT (j:Int) (t:List UInt8) (n:Int) (k m:Nat):Qab:=⟨j,t,n,(k:Int),((k+m:Nat):Int)⟩
theorem put2 {j:Int} {t:List UInt8} {n:Int} {m:Nat} {s:List UInt8} {k:Nat} {toks:List Qab} (hk:k≤200000) (hm:m≤200000) (ht:toks.length≤200000):Qar j t n (m:Int) s (k:Int) toks=some (((k+m:Nat):Int),toks++[putT j t n k m]):=by
 have ew:wr ((k:Int)+(m:Int))=((k+m:Nat):Int):=by rw[wr_in (by omega) (by omega)]; rfl
 rw[Qar,ew,Qlu (by simp; omega) (by simp; omega),Qad]
 rfl
theorem lSign (s:List UInt8) (k:Nat) (hk:k<s.length) (hs:s.length≤65536) (toks:List Qab) (ht:toks.length≤200000):Qd1 s k toks=some (match sgP s[k] with | some j=>(true,((k+1:Nat):Int),toks++[putT j [] 0 k 1]) | none=>(false,(k:Int),toks)):=by
 have step:∀ (i:Nat) (hi:i<5),Qa4 s k toks (i:Int)=if s[k]=([46,40,41,44,61]:List UInt8)[i] then some (.inr (((k+1:Nat):Int),toks++[putT ((7+i:Nat):Int) [] 0 k 1])) else Qa4 s k toks ((i+1:Nat):Int):=fun i hi=>by
  have hp:∀ j,Qar j [] 0 1 s k toks=some (((k+1:Nat):Int),toks++[putT j [] 0 k 1]):=fun j=>put2 (m:=1) (by omega) (by omega) ht
  have hd:decide ((i:Int)<5)=true:=decide_eq_true (by omega)
  rw[Qa4,hd,if_pos rfl,Qbt (by omega),Qbr,Qbr,getE hk]
  obtain rfl | rfl | rfl | rfl | rfl:i=0∨i=1∨i=2∨i=3∨i=4:=by omega
  all_goals
   simp only[List.getElem?_cons_zero,List.getElem?_cons_succ,Qad,hp]
   first
    | rw[show((s[k].toNat:Int)==46)=decide (s[k]=46) from eqC _ 46 (by omega)]
    | rw[show((s[k].toNat:Int)==40)=decide (s[k]=40) from eqC _ 40 (by omega)]
    | rw[show((s[k].toNat:Int)==41)=decide (s[k]=41) from eqC _ 41 (by omega)]
    | rw[show((s[k].toNat:Int)==44)=decide (s[k]=44) from eqC _ 44 (by omega)]
    | rw[show((s[k].toNat:Int)==61)=decide (s[k]=61) from eqC _ 61 (by omega)]
   simp only[decide_eq_true_eq,List.getElem_cons_zero,List.getElem_cons_succ]
   rfl
 have h5:Qa4 s k toks ((5:Nat):Int)=some (.inl ()):=by rw[Qa4]; rfl
 rw[Qd1,show(0:Int)=((0:Nat):Int) from rfl,step 0 (by omega),step 1 (by omega),step 2 (by omega),step 3 (by omega),step 4 (by omega),h5]
 simp only[List.getElem_cons_zero,List.getElem_cons_succ]
 unfold sgP
 by_cases a:s[k]=46
 ·rw[if_pos a,if_pos a]; rfl
 by_cases b:s[k]=40
 ·rw[if_neg a,if_neg a,if_pos b,if_pos b]; rfl
 by_cases d:s[k]=41
 ·rw[if_neg a,if_neg a,if_neg b,if_neg b,if_pos d,if_pos d]; rfl
 by_cases e:s[k]=44
 ·rw[if_neg a,if_neg a,if_neg b,if_neg b,if_neg d,if_neg d,if_pos e,if_pos e]; rfl
 by_cases f:s[k]=61
 ·rw[if_neg a,if_neg a,if_neg b,if_neg b,if_neg d,if_neg d,if_neg e,if_neg e,if_pos f,if_pos f]; rfl
 rw[if_neg a,if_neg a,if_neg b,if_neg b,if_neg d,if_neg d,if_neg e,if_neg e,if_neg f,if_neg f]; rfl
theorem lText (s:List UInt8) (k:Nat) (hk:k<s.length) (hs:s.length≤65536) (toks:List Qab) (ht:toks.length≤200000):Qd2 s k toks=some (match quoP ((s.drop (k+1)).length+1) (s.drop (k+1)) with | some q=>(true,((k+(1+q.2):Nat):Int),toks++[putT 5 q.1 0 k (1+q.2)]) | none=>(false,(k:Int),toks)):=by
 obtain⟨o,o1,o2⟩:=lQuoL s hs k toks false ((s.drop (k+1)).length+1) (k+1) [] (by omega) (by rw[List.length_drop]; omega) (by simp)
 rw[Qd2,Qbt (by omega)]
 show(Qa5 s k toks ((k+1:Nat):Int) false (s2b [])>>=_)=_
 rw[o1,Qad]
 cases hq:quoP ((s.drop (k+1)).length+1) (s.drop (k+1)) with
 | none =>
  rw[hq] at o2
  rcases o2 with ⟨y,rfl⟩ | ⟨f,b,rfl⟩
  ·rfl
  ·simp only
   rw[decide_eq_true (by omega),if_pos rfl]
 | some q =>
  rw[hq] at o2
  obtain⟨f,rfl⟩:=o2
  obtain⟨q1,q2,q3⟩:=Qpw _ _ q hq
  rw[List.length_drop] at q2
  simp only
  have ew:wr ((wr (((k+1+q.2-1:Nat):Int)+1))-(k:Int))=((1+q.2:Nat):Int):=by
   rw[Qbt (by omega),wr_in (by omega) (by omega)]; omega
  rw[decide_eq_false (by omega),if_neg (by decide),Qci,Q60,Qad,ew,put2 (by omega) (by omega) ht,Qad]
  rfl
theorem lNumber (s:List UInt8) (k:Nat) (hk:k<s.length) (hs:s.length≤65536) (toks:List Qab) (ht:toks.length≤200000):Qc0 s k toks =
  some (if(numP ((s.drop k).take (1+run digB (s.drop (k+1))))).2=true then(true,((k+(1+run digB (s.drop (k+1))):Nat):Int),toks++[putT 6 [] (numP ((s.drop k).take (1+run digB (s.drop (k+1))))).1 k (1+run digB (s.drop (k+1)))]) else(false,(k:Int),toks)):=by
 have hr:=Qyo digB (s.drop (k+1))
 rw[List.length_drop] at hr
 have hl:((s.drop k).take (1+run digB (s.drop (k+1)))).length=1+run digB (s.drop (k+1)):=by rw[List.length_take,List.length_drop]; omega
 rw[Qc0,Qbt (by omega),Qce,lRunD s hs _ _ _ (by omega),Qad,show k+1+run digB (s.drop (k+1))=k+(1+run digB (s.drop (k+1))) by omega,cutN (by omega),Qad,Qad,Qjm,Qay (by rw[hl]; omega),Qad,Qad,hl]
 cases hn:(numP ((s.drop k).take (1+run digB (s.drop (k+1))))).2 with
 | true=>rw[if_pos rfl,put2 (by omega) (by omega) ht,Qad,if_pos rfl]
 | false=>rfl
theorem lWordT (s:List UInt8) (k:Nat) (hk:k<s.length) (hs:s.length≤65536) (toks:List Qab) (ht:toks.length≤200000) (hc:letB s[k]=true):Qd3 s k toks =
  some (if wordP ((s.drop k).take (1+run letB (s.drop (k+1))))=true then(true,((k+(1+run letB (s.drop (k+1))):Nat):Int),toks++[putT 4 ((s.drop k).take (1+run letB (s.drop (k+1)))) 0 k (1+run letB (s.drop (k+1)))]) else(false,(k:Int),toks)):=by
 have hr:=Qyo letB (s.drop (k+1))
 rw[List.length_drop] at hr
 have e:run letB (s.drop k)=1+run letB (s.drop (k+1)):=by rw[dropE hk,Qnc,if_pos hc]
 have hl:((s.drop k).take (1+run letB (s.drop (k+1)))).length=1+run letB (s.drop (k+1)):=by rw[List.length_take,List.length_drop]; omega
 rw[Qd3,Qb6,lRunL s hs _ _ _ (by omega),Qad,e,cutN (by omega),Qad,Qad,lWord _ (by rw[hl]; omega),Qad,hl]
 cases wordP ((s.drop k).take (1+run letB (s.drop (k+1)))) with
 | true=>rw[Bool.not_true,if_neg (by decide),put2 (by omega) (by omega) ht,Qad,if_pos rfl]
 | false=>rfl
theorem Q4p (c:UInt8):letB c=true↔(smallB c=true∨digB c=true∨c=95):=by
 unfold letB
 rw[Bool.or_eq_true,Bool.or_eq_true,beq_iff_eq]
 have:c.toNat=95↔c=95:=⟨fun h=>UInt8.toNat_inj.1 h,fun h=>by rw[h]; rfl⟩
 rw[this]
theorem Q0l {c:UInt8} (h:c=34∨smallB c=true∨c=45∨digB c=true∨c=95):sgP c=none:=by
 have ne:∀ d:UInt8,(d=46∨d=40∨d=41∨d=44∨d=61)→c≠d:=fun d hd e=>by
  subst e
  rcases hd with rfl | rfl | rfl | rfl | rfl<;>revert h<;>decide
 have f1:=ne 46 (by decide)
 have f2:=ne 40 (by decide)
 have f3:=ne 41 (by decide)
 have f4:=ne 44 (by decide)
 have f5:=ne 61 (by decide)
 simp[sgP,f1,f2,f3,f4,f5]
theorem word95 {l:List UInt8} {m:Nat}:wordP ((95::l).take (1+m))=false:=by
 rw[Nat.add_comm,List.take_succ_cons]
 unfold wordP
 rw[Qpt]
 simp
theorem lOne (s:List UInt8) (k:Nat) (hk:k<s.length) (hs:s.length≤65536) (toks:List Qab) (ht:toks.length≤200000):Qcn s k toks =
  some (match one18 (s.drop k) with | some o=>(true,((k+o.2.2.2:Nat):Int),toks++[putT o.1 o.2.1 o.2.2.1 k o.2.2.2]) | none=>(false,(k:Int),toks)):=by
 have e34:((s[k].toNat:Int)==34)=decide (s[k]=34):=eqC s[k] 34 (by omega)
 have e45:((s[k].toNat:Int)==45)=decide (s[k]=45):=eqC s[k] 45 (by omega)
 rw[Qcn,Qbr,getE hk,Qad,e34,e45,lDigit,lLetter,lText s k hk hs toks ht,lNumber s k hk hs toks ht,lSign s k hk hs toks ht]
 rw[dropE hk,one18]
 by_cases h34:s[k]=34
 ·rw[decide_eq_true h34,if_pos rfl,Qad,Q0l (.inl h34)]
  simp only
  rw[if_pos h34]
  cases quoP ((s.drop (k+1)).length+1) (s.drop (k+1))<;>rfl
 ·rw[decide_eq_false h34,if_neg (by decide)]
  by_cases hn:s[k]=45∨digB s[k]=true
  ·have h1:(if decide (s[k]=45)=true then some true else(some (digB s[k])>>=fun x4=>some x4):Option Bool)=some true:=by
    rcases hn with h | h
    ·rw[decide_eq_true h,if_pos rfl]
    ·rw[h]; split<;>rfl
   have hsm:¬ smallB s[k]=true:=fun h=>by
    have a:97≤s[k].toNat∧s[k].toNat≤122:=by simpa [smallB] using h
    rcases hn with h | h
    ·rw[h] at a; exact absurd a.1 (by decide)
    ·have:48≤s[k].toNat∧s[k].toNat≤57:=by simpa [digB] using h
     omega
   rw[h1,Qad,if_pos rfl,Qad,Q0l (by rcases hn with h | h; exact .inr (.inr (.inl h)); exact .inr (.inr (.inr (.inl h))))]
   simp only
   rw[if_neg h34,if_neg hsm,if_pos hn]
   cases (numP ((s[k]::s.drop (k+1)).take (1+run digB (s.drop (k+1))))).2<;>rfl
  ·have h1:(if decide (s[k]=45)=true then some true else(some (digB s[k])>>=fun x4=>some x4):Option Bool)=some false:=by
    rw[decide_eq_false (fun h=>hn (.inl h)),if_neg (by decide),Qad,show digB s[k]=false by simpa using fun h=>hn (.inr h)]
   rw[h1,Qad,if_neg (by decide),Qad]
   by_cases hl:letB s[k]=true
   ·rw[hl,if_pos rfl,lWordT s k hk hs toks ht hl,Qad,dropE hk]
    have hx:=(Q4p s[k]).1 hl
    rw[Q0l (by rcases hx with h | h | h; exact .inr (.inl h); exact .inr (.inr (.inr (.inl h))); exact .inr (.inr (.inr (.inr h))))]
    simp only
    rw[if_neg h34]
    by_cases hsm:smallB s[k]=true
    ·rw[if_pos hsm]
     cases wordP ((s[k]::s.drop (k+1)).take (1+run letB (s.drop (k+1))))<;>rfl
    ·have h95:s[k]=95:=by
      rcases hx with h | h | h
      ·exact absurd h hsm
      ·exact absurd (.inr h) hn
      ·exact h
     rw[if_neg hsm,if_neg hn,h95,word95]
     rfl
   ·rw[show letB s[k]=false by simpa using hl,if_neg (by decide),Qad]
    cases hg:sgP s[k] with
    | some j=>rfl
    | none =>
     simp only
     have hsm:¬ smallB s[k]=true:=fun h=>hl ((Q4p _).2 (.inl h))
     rw[if_neg h34,if_neg hsm,if_neg hn]
end Go.Proofs.YtagokkpnfceidaaDoor
end

section
namespace Go.Proofs.YtagokkpnfceidaaDoor
open Go.RowKit
def tokI (s:List UInt8):Nat→Nat→List Qab→(List Qab×Nat)⊕Nat
 | 0,k,_ =>.inr k
 | n+1,k,acc =>
  if two 125 125 (s.drop (k+blN (s.drop k))) then .inl (acc++[putT 3 [] 0 (k+blN (s.drop k)) 2],k+blN (s.drop k)+2)
  else match one18 (s.drop (k+blN (s.drop k))) with
   | none =>.inr (k+blN (s.drop k))
   | some o=>tokI s n (k+blN (s.drop k)+o.2.2.2) (acc++[putT o.1 o.2.1 o.2.2.1 (k+blN (s.drop k)) o.2.2.2])
def litT (s:List UInt8) (k:Nat) (acc:List Qab):List Qab:=if 0<fnd 123 123 (s.drop k) then acc++[putT 1 ((s.drop k).take (fnd 123 123 (s.drop k))) 0 k (fnd 123 123 (s.drop k))] else acc
def openK (s:List UInt8) (k:Nat):Nat:=k+2+blN (s.drop (k+2))+(if oneB 35 (s.drop (k+2+blN (s.drop (k+2)))) then fnd 125 125 (s.drop (k+2+blN (s.drop (k+2)))) else 0)
def tokO (s:List UInt8):Nat→Nat→List Qab→List Qab×Int×Int
 | 0,_,_=>([],0,0)
 | n+1,k,acc =>
  if fnd 123 123 (s.drop k)<s.length-k then
   match tokI s (s.length+1) (openK s (k+fnd 123 123 (s.drop k))) (litT s k acc++[putT 2 [] 0 (k+fnd 123 123 (s.drop k)) 2]) with
   | .inl y=>tokO s n y.2 y.1
   | .inr p=>([],(p:Int),7)
  else(litT s k acc,0,0)
theorem cutE (s:List UInt8) (k:Nat) (hk:k≤s.length):cutL s k (s.length:Int)=some (s.drop k):=by
 rw[Qjq (by omega) (by omega) (by omega)]
 simp
theorem idxD (a b:UInt8) (s:List UInt8) (k:Nat) (hs:s.length≤65536):strings_Index (s.drop k) [a,b]=some (if fnd a b (s.drop k)<s.length-k then(fnd a b (s.drop k):Int) else -1):=by
 rw[strings_Index,Qb5,Qay (by rw[List.length_drop]; omega),Qad,Qad,lIdx,List.length_drop]
theorem fnd2 (s:List UInt8) (k:Nat) (h:fnd 123 123 (s.drop k)<s.length-k):k+fnd 123 123 (s.drop k)+2≤s.length:=by
 have:=Q0k (Q6k 123 123 (s.drop k) (by rw[List.length_drop]; exact h))
 rw[List.length_drop,List.length_drop] at this
 omega
theorem Q1r (s:List UInt8) (k:Nat) (hk:k+2≤s.length):k+2≤openK s k∧openK s k≤s.length:=by
 have h1:=Qqa (s.drop (k+2))
 have h2:=Quf 125 125 (s.drop (k+2+blN (s.drop (k+2))))
 rw[List.length_drop] at h1 h2
 unfold openK
 split<;>omega
theorem Qwh (s:List UInt8):∀ (n k:Nat) (acc:List Qab) (y:List Qab×Nat),k≤s.length→tokI s n k acc = .inl y→k<y.2∧y.2≤s.length∧y.1.length≤acc.length+(y.2-k)
 | 0,k,acc,y,_,h=>by cases h
 | n+1,k,acc,y,hk,h=>by
  have hb:=Qqa (s.drop k)
  rw[List.length_drop] at hb
  rw[tokI] at h
  split at h
  ·rename_i h2
   have:=Q0k h2
   rw[List.length_drop] at this
   cases h
   simp only[List.length_append,List.length_cons,List.length_nil]
   omega
  ·split at h
   ·cases h
   ·rename_i o ho
    obtain⟨o1,o2⟩:=Qsk ho
    rw[List.length_drop] at o2
    have:=Qwh s n _ _ y (by omega) h
    simp only[List.length_append,List.length_cons,List.length_nil] at this
    omega
theorem lInner (s:List UInt8) (hs:s.length≤65536):∀ (n k:Nat) (acc:List Qab),k≤s.length→s.length-k<n→acc.length≤k →
  Qet s ((k:Int),acc)=match tokI s n k acc with | .inl y=>Qcg s ((y.2:Int),y.1) | .inr p=>some ([],(p:Int),7)
 | 0,k,acc,h1,h2,_=>by omega
 | n+1,k,acc,h1,h2,h3=>by
  have hb:=Qqa (s.drop k)
  rw[List.length_drop] at hb
  rw[Qet,lBl s k h1 hs,Qad,lBeg2 125 125 s _ (by omega) hs,Qad,tokI]
  by_cases h2' : two 125 125 (s.drop (k+blN (s.drop k)))=true
  ·have:=Q0k h2'
   rw[List.length_drop] at this
   have hp:Qar 3 [] 0 2 s ((k+blN (s.drop k):Nat):Int) acc=some (((k+blN (s.drop k)+2:Nat):Int),acc++[putT 3 [] 0 (k+blN (s.drop k)) 2]):=put2 (m:=2) (by omega) (by omega) (by omega)
   rw[if_pos h2', if_pos h2', hp,Qad]
  ·rw[if_neg h2', if_neg h2']
   rcases Nat.lt_or_ge (k+blN (s.drop k)) s.length with hlt | hge
   ·have en:(((k+blN (s.drop k):Nat):Int)==(s.length:Int))=false:=beq_eq_false_iff_ne.2 (by omega)
    rw[en,if_neg (show ¬ (false=true) by decide),lOne s _ hlt hs acc (by omega),Qad]
    cases ho:one18 (s.drop (k+blN (s.drop k))) with
    | none=>rfl
    | some o =>
     obtain⟨o1,o2⟩:=Qsk ho
     rw[List.length_drop] at o2
     simp only[Bool.not_true,Qad]
     rw[if_neg (show ¬ (false=true) by decide),lInner s hs n _ _ (by omega) (by omega) (by simp; omega)]
   ·have en:(((k+blN (s.drop k):Nat):Int)==(s.length:Int))=true:=beq_iff_eq.2 (by omega)
    rw[en,if_pos rfl,Qad,if_pos rfl,List.drop_eq_nil_of_le hge]
    rfl
theorem Q56 (s:List UInt8) (k:Nat) (acc:List Qab):(litT s k acc).length≤acc.length+fnd 123 123 (s.drop k):=by
 unfold litT
 split
 ·simp; omega
 ·omega
theorem lOuter (s:List UInt8) (hs:s.length≤65536):∀ (n k:Nat) (acc:List Qab),k≤s.length→s.length-k<n→acc.length≤k→Qcg s ((k:Int),acc)=some (tokO s n k acc)
 | 0,k,acc,h1,h2,_=>by omega
 | n+1,k,acc,h1,h2,h3=>by
  have hf:=Quf 123 123 (s.drop k)
  rw[List.length_drop] at hf
  have hll:=Q56 s k acc
  have eo:(if decide ((if fnd 123 123 (s.drop k)<s.length-k then(fnd 123 123 (s.drop k):Int) else -1)<0)=true then some (wr ((s.length:Int)-(k:Int))) else some (if fnd 123 123 (s.drop k)<s.length-k then(fnd 123 123 (s.drop k):Int) else -1):Option Int)=some ((fnd 123 123 (s.drop k):Nat):Int):=by
   by_cases h:fnd 123 123 (s.drop k)<s.length-k
   ·rw[if_pos h,decide_eq_false (by omega),if_neg (by decide)]
   ·rw[if_neg h,decide_eq_true (by decide),if_pos rfl,wr_in (by omega) (by omega)]
    congr 1
    omega
  have el:(if decide (((fnd 123 123 (s.drop k):Nat):Int)>0)=true then(cutL s k (wr ((k:Int)+((fnd 123 123 (s.drop k):Nat):Int)))>>=fun x6=>Qar 1 x6 0 ((fnd 123 123 (s.drop k):Nat):Int) s k acc>>=fun x7=>some (x7.1,x7.2)) else some ((k:Int),acc):Option (Int×List Qab))=some (((k+fnd 123 123 (s.drop k):Nat):Int),litT s k acc):=by
   have ew:wr ((k:Int)+((fnd 123 123 (s.drop k):Nat):Int))=((k+fnd 123 123 (s.drop k):Nat):Int):=by rw[wr_in (by omega) (by omega)]; rfl
   unfold litT
   by_cases h:0<fnd 123 123 (s.drop k)
   ·rw[decide_eq_true (by omega),if_pos rfl,ew,cutN (by omega),Qad,put2 (by omega) (by omega) (by omega),Qad,if_pos h]
   ·rw[decide_eq_false (by omega),if_neg (by decide),if_neg h]
    congr 2
    omega
  rw[Qcg]
  simp only
  rw[cutE s k h1,Qad,idxD 123 123 s k hs,Qad,eo,Qad,el,Qad,tokO]
  simp only
  by_cases hlt:fnd 123 123 (s.drop k)<s.length-k
  ·have hf2:=fnd2 s k hlt
   have en:(((k+fnd 123 123 (s.drop k):Nat):Int)==(s.length:Int))=false:=beq_eq_false_iff_ne.2 (by omega)
   obtain⟨g1,g2⟩:=Q1r s (k+fnd 123 123 (s.drop k)) hf2
   have hp:Qar 2 [] 0 2 s ((k+fnd 123 123 (s.drop k):Nat):Int) (litT s k acc)=some (((k+fnd 123 123 (s.drop k)+2:Nat):Int),litT s k acc++[putT 2 [] 0 (k+fnd 123 123 (s.drop k)) 2]):=put2 (m:=2) (by omega) (by omega) (by omega)
   have hb:=Qqa (s.drop (k+fnd 123 123 (s.drop k)+2))
   rw[List.length_drop] at hb
   rw[en,if_neg (show ¬ (false=true) by decide),if_pos hlt,hp,Qad]
   simp only
   rw[lBl s _ hf2 hs,Qad,lBeg1 35 s _ (by omega) hs,Qad]
   by_cases h35:oneB 35 (s.drop (k+fnd 123 123 (s.drop k)+2+blN (s.drop (k+fnd 123 123 (s.drop k)+2))))=true
   ·have hf3:=Quf 125 125 (s.drop (k+fnd 123 123 (s.drop k)+2+blN (s.drop (k+fnd 123 123 (s.drop k)+2))))
    rw[List.length_drop] at hf3
    have eK:openK s (k+fnd 123 123 (s.drop k))=k+fnd 123 123 (s.drop k)+2+blN (s.drop (k+fnd 123 123 (s.drop k)+2))+fnd 125 125 (s.drop (k+fnd 123 123 (s.drop k)+2+blN (s.drop (k+fnd 123 123 (s.drop k)+2)))):=by
     unfold openK; rw[if_pos h35]
    rw[if_pos h35,cutE s _ (by omega),Qad,idxD 125 125 s _ hs,Qad]
    by_cases hx:fnd 125 125 (s.drop (k+fnd 123 123 (s.drop k)+2+blN (s.drop (k+fnd 123 123 (s.drop k)+2))))<s.length-(k+fnd 123 123 (s.drop k)+2+blN (s.drop (k+fnd 123 123 (s.drop k)+2)))
    ·rw[if_pos hx,decide_eq_false (by omega),if_neg (show ¬ (false=true) by decide),Qad]
     simp only
     rw[wr_in (by omega) (by omega),← Int.natCast_add,← eK,lInner s hs (s.length+1) _ _ (by omega) (by omega) (by simp only[List.length_append,List.length_cons,List.length_nil]; omega)]
     cases hI:tokI s (s.length+1) (openK s (k+fnd 123 123 (s.drop k))) (litT s k acc++[putT 2 [] 0 (k+fnd 123 123 (s.drop k)) 2]) with
     | inr p=>rfl
     | inl y =>
      obtain⟨y1,y2,y3⟩:=Qwh s _ _ _ _ g2 hI
      simp only[List.length_append,List.length_cons,List.length_nil] at y3
      have q2:s.length-y.2<n:=by omega
      have q3:y.1.length≤y.2:=by omega
      exact lOuter s hs n _ _ y2 q2 q3
    ·rw[if_neg hx,decide_eq_true (by decide),if_pos rfl,Qad]
     have e2:openK s (k+fnd 123 123 (s.drop k))=s.length:=by omega
     have eb:s.length+blN (s.drop s.length)=s.length:=by rw[List.drop_length]; rfl
     rw[e2,tokI,eb,List.drop_length]
     rfl
   ·have eK:openK s (k+fnd 123 123 (s.drop k))=k+fnd 123 123 (s.drop k)+2+blN (s.drop (k+fnd 123 123 (s.drop k)+2)):=by
     unfold openK; rw[if_neg h35]; rfl
    rw[if_neg h35,Qad]
    simp only
    rw[← eK,lInner s hs (s.length+1) _ _ (by omega) (by omega) (by simp only[List.length_append,List.length_cons,List.length_nil]; omega)]
    cases hI:tokI s (s.length+1) (openK s (k+fnd 123 123 (s.drop k))) (litT s k acc++[putT 2 [] 0 (k+fnd 123 123 (s.drop k)) 2]) with
    | inr p=>rfl
    | inl y =>
     obtain⟨y1,y2,y3⟩:=Qwh s _ _ _ _ g2 hI
     simp only[List.length_append,List.length_cons,List.length_nil] at y3
     have q2:s.length-y.2<n:=by omega
     have q3:y.1.length≤y.2:=by omega
     exact lOuter s hs n _ _ y2 q2 q3
  ·have en:(((k+fnd 123 123 (s.drop k):Nat):Int)==(s.length:Int))=true:=beq_iff_eq.2 (by omega)
   rw[en,if_pos rfl,if_neg hlt]
def tokens (s:List UInt8):List Qab×Int×Int:=if 65536<s.length then([],0,6) else tokO s (s.length+1) 0 []
theorem lTokens (s:List UInt8):Qki s=some (tokens s):=by
 rw[Qki,tokens]
 by_cases h:65536<s.length
 ·rw[decide_eq_true (by omega),if_pos rfl,if_pos h]; rfl
 ·rw[decide_eq_false (by omega),if_neg (by decide),if_neg h]
  have:=lOuter s (by omega) (s.length+1) 0 [] (by omega) (by omega) (by simp)
  rw[show((0:Nat):Int)=0 from rfl] at this
  rw[this]; rfl
end Go.Proofs.YtagokkpnfceidaaDoor
end

section
namespace Go.Proofs.YtagokkpnfceidaaDoor
open Go.RowKit
set_option linter.unusedSimpArgs false
set_option linter.unusedVariables false
theorem Qwi:∀ (n:Nat) (l:List UInt8) (q:List UInt8×Nat),quoP n l=some q→q.1.length≤q.2
 | 0,l,q,h=>by simp[quoP] at h
 | n+1,[],q,h=>by simp[quoP] at h
 | n+1,c::r,q,h=>by
  rw[Qgq] at h
  split at h
  ·cases h; simp
  split at h
  ·cases r with
   | nil=>cases h
   | cons d r =>
    rw[escR] at h
    split at h
    ·obtain⟨q', h1,rfl⟩:=Option.map_eq_some_iff.1 h
     have:=Qwi n r q' h1
     simp only[List.length_cons]; omega
    ·cases h
  split at h
  ·cases h
  ·obtain⟨q', h1,rfl⟩:=Option.map_eq_some_iff.1 h
   have:=Qwi n _ q' h1
   simp only[List.length_append,List.length_take]; omega
theorem Q4q {l:List UInt8} {o:Int×List UInt8×Int×Nat} (h:one18 l=some o):o.2.1.length≤o.2.2.2:=by
 cases l with
 | nil=>cases h
 | cons c r =>
  rw[Qio] at h
  split at h
  ·cases h; simp
  ·split at h
   ·obtain⟨q,h1,rfl⟩:=Option.map_eq_some_iff.1 h
    have:=Qwi _ _ _ h1
    simp only; omega
   ·split at h
    ·split at h
     ·cases h; simp only[List.length_take]; omega
     ·cases h
    ·split at h
     ·split at h
      ·cases h; simp
      ·cases h
     ·cases h
def Fit (l:List Qab) (b:Nat):Prop:=l.length≤b∧tsum l≤b
theorem Fit.snoc {l:List Qab} {b:Nat} (h:Fit l b) (t:Qab) {m:Nat} (h1:1≤m) (h2:t.Text.length≤m):Fit (l++[t]) (b+m):=by
 refine⟨by have:=h.1; simp; omega,?_⟩
 have:=h.2
 unfold tsum at this ⊢
 simp; omega
theorem Fit.mono {l:List Qab} {b b' : Nat} (h:Fit l b) (hb:b≤b'):Fit l b' := ⟨by have:=h.1; omega,by have:=h.2; omega⟩
theorem Q1s (s:List UInt8):∀ (n k:Nat) (acc:List Qab) (y:List Qab×Nat),k≤s.length→Fit acc k→tokI s n k acc = .inl y→Fit y.1 y.2
 | 0,k,acc,y,_,_,h=>by cases h
 | n+1,k,acc,y,hk,ha,h=>by
  have hb:=Qqa (s.drop k)
  rw[List.length_drop] at hb
  rw[tokI] at h
  split at h
  ·cases h
   exact(ha.mono (show k≤k+blN (s.drop k) by omega)).snoc _ (by omega) (by simp[putT])
  ·split at h
   ·cases h
   ·rename_i o ho
    obtain⟨o1,o2⟩:=Qsk ho
    rw[List.length_drop] at o2
    exact Q1s s n _ _ y (by omega) ((ha.mono (show k≤k+blN (s.drop k) by omega)).snoc _ o1 (Q4q ho)) h
theorem Q1t (s:List UInt8) (k:Nat) (acc:List Qab) (h:Fit acc k):Fit (litT s k acc) (k+fnd 123 123 (s.drop k)):=by
 unfold litT
 split
 ·exact h.snoc _ (by omega) (by simp[putT]; omega)
 ·exact h.mono (by omega)
theorem Q1u (s:List UInt8):∀ (n k:Nat) (acc:List Qab),k≤s.length→Fit acc k→Fit (tokO s n k acc).1 s.length
 | 0,k,acc,_,_=>⟨by simp[tokO],by simp[tokO,tsum]⟩
 | n+1,k,acc,hk,ha=>by
  have hf:=Quf 123 123 (s.drop k)
  rw[List.length_drop] at hf
  rw[tokO]
  split
  ·rename_i hlt
   have h2:=fnd2 s k hlt
   obtain⟨p1,p2⟩:=Q1r s (k+fnd 123 123 (s.drop k)) h2
   have hl:=((Q1t s k acc ha).snoc (putT 2 [] 0 (k+fnd 123 123 (s.drop k)) 2) (m:=2) (by omega) (by simp[putT])).mono p1
   split
   ·rename_i y hy
    obtain⟨-,g2,-⟩:=Qwh s _ _ _ y p2 hy
    exact Q1u s n y.2 y.1 g2 (Q1s s _ _ _ y p2 hl hy)
   ·exact⟨by simp,by simp[tsum]⟩
  ·exact(Q1t s k acc ha).mono (by omega)
theorem Qug (s:List UInt8):Fit (tokens s).1 65536:=by
 unfold tokens
 split
 ·exact⟨by simp,by simp[tsum]⟩
 ·exact(Q1u s _ 0 [] (by omega) ⟨by simp,by simp[tsum]⟩).mono (by omega)
theorem Q0m (s:List UInt8):Toks (tokens s).1:=by
 obtain⟨h1,h2⟩:=Qug s
 exact⟨by omega,by unfold tsum at h2; omega⟩
theorem Qbg {α β : Type} {r:Rs α} {f : α → List Qab→Rs β} {y : β} {l' : List Qab} (h:r.bind f = .ok y l'):∃ a l1,r = .ok a l1∧f a l1 = .ok y l' := by
 cases r with
 | ok a l1=>exact⟨a,l1,rfl,h⟩
 | bad l1=>cases h
theorem Qhn {k:Int} (hk:k≠0) {l l' : List Qab} {t:Qab} (h:want k l = .ok t l'):l'.length+1=l.length∧t=hd l∧l' = l.tail∧kd l=k:=by
 unfold want at h
 split at h
 ·rename_i h1
  have:=Qcu (kd_ne hk h1)
  have:=List.length_pos_iff.2 (kd_ne hk h1)
  cases h
  exact⟨by rw[List.length_tail]; omega,rfl,rfl,h1⟩
 ·cases h
theorem Qyp {w:List UInt8} {l l' : List Qab} {u:Unit} (h:wantW w l = .ok u l'):l'.length+1=l.length:=by
 unfold wantW at h
 split at h
 ·rename_i h1
  have:=List.length_pos_iff.2 (Qig h1)
  cases h
  rw[List.length_tail]; omega
 ·cases h
theorem Qo4 {l l' : List Qab} {s:List UInt8} (h:nameR l = .ok s l'):l'.length+1=l.length:=by
 unfold nameR at h
 split at h
 ·rename_i h1
  have:=List.length_pos_iff.2 (kd_ne (by decide) h1.1)
  cases h
  rw[List.length_tail]; omega
 ·cases h
theorem Qo5 {w:List UInt8} {l l' : List Qab} {u:Unit} (h:endW w l = .ok u l'):l'.length+3=l.length:=by
 obtain⟨a,l1,h1,h⟩:=Qbg h
 obtain⟨b,l2,h2,h⟩:=Qbg h
 obtain⟨c,l3,h3,h⟩:=Qbg h
 cases h
 have:=(Qhn (by decide) h1).1
 have:=Qyp h2
 have:=(Qhn (by decide) h3).1
 omega
def NE (E:List Qab→Rs Qaa):Prop:=∀ l x l', E l = .ok x l' → nn x+l'.length≤l.length
theorem Qpx (k:Int) (s t:List UInt8) (n:Int):nn ⟨k,s,t,n,[],[],[]⟩=1:=by simp[nn_eq,nns]
theorem Qc4 {l:List Qab} (h:l≠[]):l.tail.length+1=l.length:=by
 have:=List.length_pos_iff.2 h
 rw[List.length_tail]; omega
theorem Q4r {E:List Qab→Rs Qaa} (hE:NE E) {l l' : List Qab} {xs:List Qaa} (h:argsR E l = .ok xs l'):nns xs+l'.length+1≤l.length:=by
 unfold argsR at h
 split at h
 ·rename_i h9
  have:=Qc4 (kd_ne (by decide) h9)
  cases h
  simp only[nns]; omega
 ·obtain⟨x1,l1,e1,h⟩:=Qbg h
  have:=hE _ _ _ e1
  split at h
  ·rename_i h10
   have:=Qc4 (kd_ne (by decide) h10)
   obtain⟨x2,l2,e2,h⟩:=Qbg h
   have:=hE _ _ _ e2
   split at h
   ·rename_i h11
    have:=Qc4 (kd_ne (by decide) h11)
    obtain⟨x3,l3,e3,h⟩:=Qbg h
    have:=hE _ _ _ e3
    obtain⟨u,l4,e4,h⟩:=Qbg h
    have:=(Qhn (by decide) e4).1
    cases h
    simp only[nns]; omega
   ·obtain⟨u,l4,e4,h⟩:=Qbg h
    have:=(Qhn (by decide) e4).1
    cases h
    simp only[nns]; omega
  ·obtain⟨u,l4,e4,h⟩:=Qbg h
   have:=(Qhn (by decide) e4).1
   cases h
   simp only[nns]; omega
theorem Q2v {E:List Qab→Rs Qaa} (hE:NE E):NE (firstR E):=fun l x l' h=>by
 unfold firstR at h
 split at h
 ·rename_i h1
  have:=Qc4 (kd_ne (by decide) h1)
  cases h; rw[Qpx]; omega
 split at h
 ·rename_i h1
  have:=Qc4 (kd_ne (by decide) h1)
  cases h; rw[Qpx]; omega
 split at h
 ·rename_i h1
  have:=Qc4 (Qig h1)
  cases h; rw[Qpx]; omega
 split at h
 ·rename_i h1
  have:=Qc4 (Qig h1)
  cases h; rw[Qpx]; omega
 split at h
 ·rename_i h1
  have:=Qc4 (Qig h1)
  obtain⟨a,l1,e1,h⟩:=Qbg h
  have:=(Qhn (by decide) e1).1
  split at h
  ·obtain⟨b,l2,e2,h⟩:=Qbg h
   have e9:=(Qhn (by decide) e2).1
   have e8:=List.length_tail (l:=l1)
   cases h; rw[Qpx]
   omega
  ·cases h
 ·obtain⟨s,l1,e1,h⟩:=Qbg h
  have:=Qo4 e1
  split at h
  ·rename_i h1
   have:=Qc4 (kd_ne (by decide) h1)
   obtain⟨xs,l2,e2,h⟩:=Qbg h
   have:=Q4r hE e2
   cases h
   rw[nn_eq]; simp only[nns]; omega
  ·cases h; rw[Qpx]; omega
theorem Qyq:∀ (n:Nat) (x:Qaa) (l:List Qab) (y:Qaa) (l' : List Qab),dotsR n x l = .ok y l' → nn y+l'.length≤nn x+l.length
 | 0,x,l,y,l', h=>by cases h; omega
 | n+1,x,l,y,l', h=>by
  unfold dotsR at h
  split at h
  ·rename_i h1
   have:=Qc4 (kd_ne (by decide) h1)
   obtain⟨t,l1,e1,h⟩:=Qbg h
   have:=(Qhn (by decide) e1).1
   have:=Qyq n _ _ _ _ h
   have e:nn ⟨5,t.Text,[],0,[x],[],[]⟩=1+nn x:=by rw[nn_eq]; simp[nns]
   rw[e] at this
   omega
  ·cases h; omega
theorem Qyr:∀ f,NE (exprR f)
 | 0=>fun l x l' h=>by cases h
 | f+1=>fun l x l' h=>by
  obtain⟨y,l1,e1,h⟩:=Qbg h
  have:=Q2v (Qyr f) _ _ _ e1
  have:=Qyq _ _ _ _ _ h
  omega
theorem Qjb {l l' : List Qab} {x:Qaa} (h:closedR l = .ok x l'):nn x+l'.length+1≤l.length:=by
 obtain⟨y,l1,e1,h⟩:=Qbg h
 obtain⟨u,l2,e2,h⟩:=Qbg h
 have:=Qyr _ _ _ _ e1
 have:=(Qhn (by decide) e2).1
 cases h; omega
theorem Q57 {B:Bool→Bool→List Qab→Rs (List Qaa)} (hB:∀ i o l y l', B i o l = .ok y l' → nns y+l'.length≤l.length) {l l' : List Qab} {x:Qaa} (h:actR B l = .ok x l'):nn x+l'.length≤l.length:=by
 unfold actR at h
 split at h
 ·rename_i h1
  have:=Qc4 (Qig h1)
  obtain⟨a,l1,e1,h⟩:=Qbg h
  obtain⟨b,l2,e2,h⟩:=Qbg h
  have:=Qjb e1
  have:=hB _ _ _ _ _ e2
  split at h
  ·obtain⟨c,l3,e3,h⟩:=Qbg h
   obtain⟨d,l4,e4,h⟩:=Qbg h
   obtain⟨e,l5,e5,h⟩:=Qbg h
   have:=Qo5 e3
   have:=hB _ _ _ _ _ e4
   have:=Qo5 e5
   cases h
   rw[nn_eq]; simp only[nns]; omega
  ·obtain⟨e,l5,e5,h⟩:=Qbg h
   have:=Qo5 e5
   cases h
   rw[nn_eq]; simp only[nns]; omega
 split at h
 ·rename_i h1
  have:=Qc4 (Qig h1)
  obtain⟨a,l1,e1,h⟩:=Qbg h
  obtain⟨b,l2,e2,h⟩:=Qbg h
  obtain⟨c,l3,e3,h⟩:=Qbg h
  obtain⟨d,l4,e4,h⟩:=Qbg h
  obtain⟨e,l5,e5,h⟩:=Qbg h
  have:=Qo4 e1
  have:=Qyp e2
  have:=Qjb e3
  have:=hB _ _ _ _ _ e4
  have:=Qo5 e5
  cases h
  rw[nn_eq]; simp only[nns]; omega
 split at h
 ·rename_i h1
  have:=Qc4 (Qig h1)
  obtain⟨a,l1,e1,h⟩:=Qbg h
  obtain⟨b,l2,e2,h⟩:=Qbg h
  obtain⟨c,l3,e3,h⟩:=Qbg h
  obtain⟨d,l4,e4,h⟩:=Qbg h
  obtain⟨e,l5,e5,h⟩:=Qbg h
  have:=Qo4 e1
  have:=(Qhn (by decide) e2).1
  have:=Qjb e3
  have:=hB _ _ _ _ _ e4
  have:=Qo5 e5
  cases h
  rw[nn_eq]; simp only[nns]; omega
 split at h
 ·rename_i h1
  have:=Qc4 (Qig h1)
  obtain⟨a,l1,e1,h⟩:=Qbg h
  obtain⟨b,l2,e2,h⟩:=Qbg h
  have:=Qo4 e1
  have:=Qjb e2
  cases h
  rw[nn_eq]; simp only[nns]; omega
 ·obtain⟨a,l1,e1,h⟩:=Qbg h
  have:=Qjb e1
  cases h
  rw[nn_eq]; simp only[nns]; omega
theorem Q4s:∀ (v:List Qaa) (k:Nat) (x y:Qaa),v[k]? = some x→nn y=nn x→nns (v.set k y)=nns v
 | [],k,x,y,h,_=>by simp at h
 | z::r,0,x,y,h,e=>by simp at h; subst h; simp[nns,e]
 | z::r,k+1,x,y,h,e=>by
  simp only[List.getElem?_cons_succ] at h
  simp only[List.set_cons_succ,nns,Q4s r k x y h e]
theorem Q2w (v:List Qaa) (s:List UInt8):nns (addLit v s)≤nns v+1:=by
 unfold addLit
 split
 ·rename_i x hx
  split
  ·rw[Q4s v _ x]
   ·omega
   ·rw[← List.getLast?_eq_getElem?]; exact hx
   ·rw[nn_eq,nn_eq]
  ·rw[Qwf]; simp[nns,nn_eq]
 ·rw[Qwf]; simp[nns,nn_eq]
theorem Qmt:∀ (f:Nat) (i o:Bool) (out:List Qaa) (l:List Qab) (y:List Qaa) (l' : List Qab),loopR f i o out l = .ok y l' → nns y+l'.length≤nns out+l.length
 | 0,i,o,out,l,y,l', h=>by cases h
 | f+1,i,o,out,l,y,l', h=>by
  unfold loopR at h
  split at h
  ·cases h; omega
  split at h
  ·rename_i hne h1
   have:=Qmt f _ _ _ _ _ _ h
   have:=Q2w out (hd l).Text
   have:=Qc4 hne
   omega
  split at h
  ·cases h; omega
  split at h
  ·rename_i h2
   have:=Qc4 (kd_ne (by decide) h2)
   split at h
   ·rename_i h3
    have:=Qmt f _ _ _ _ _ _ h
    have:=Qc4 (kd_ne (by decide) h3)
    omega
   ·obtain⟨x,l1,e1,h⟩:=Qbg h
    have:=Q57 (fun i o l y l' e=>by have:=Qmt f i o [] l y l' e; simpa [nns] using this) e1
    have:=Qmt f _ _ _ _ _ _ h
    rw[Qwf] at this
    simp only[nns] at this
    omega
  ·cases h
noncomputable def parseP (s:List UInt8):List Qaa×Int×Int :=
 if(tokens s).2.2=0 then
  match bl20 false false (tokens s).1 with
  | .bad l=>([],(if l=[] then(s.length:Int) else(hd l).From),7)
  | .ok out _=>if 1024<nns out then([],0,5) else if 12<dps out then([],0,8) else(out,0,0)
 else([],(tokens s).2.1,(tokens s).2.2)
theorem Q58 {L l:List Qab} (hL:Toks L) (h:l <:+ L) (s:List UInt8):Qc1 s L (pos L l)=some (if l=[] then(s.length:Int) else(hd l).From):=by
 unfold Qc1
 by_cases hne:l=[]
 ·subst hne; simp[Q0h]
 ·obtain⟨h1,h2,-⟩:=Q4j h hne
  rw[h1,h2,if_neg hne]; rfl
theorem Q65 (L:List Qab):pos L L=0:=by simp[pos]
theorem prsIs (s:List UInt8):Qeu s=some (parseP s):=by
 unfold Qeu parseP
 rw[lTokens s,Qad]
 by_cases h0:(tokens s).2.2=0
 ·have e0:((tokens s).2.2 != 0)=false:=by simp[h0]
  have hL:=Q0m s
  have hb:=pBlk hL false false (List.suffix_refl (tokens s).1)
  rw[Q65] at hb
  have hs:=Qja ((tokens s).1.length+1) false false [] (tokens s).1
  have ht:=Qkm ((tokens s).1.length+1) false false [] (tokens s).1
  simp only[e0,Bool.false_eq_true,if_false,if_pos h0,hb,Qad]
  cases hx:bl20 false false (tokens s).1 with
  | bad l =>
   unfold bl20 at hx
   rw[hx] at hs
   simp only[cBlk,Q58 hL hs,Qad]
  | ok out l =>
   unfold bl20 at hx
   rw[hx] at hs ht
   have hn:l=[]:=by simpa [Stops] using ht
   have hln:=Qmt _ _ _ _ _ _ _ hx
   have hf:=(Qug s).1
   simp only[nns] at hln
   simp only[cBlk,if_pos hn,Bool.false_eq_true,if_false,tCount out (by omega),Qad,tDeep out (by omega)]
   by_cases h1:1024<nns out
   ·rw[if_pos h1,if_pos (by simp; omega)]
   ·rw[if_neg h1,if_neg (by simp; omega)]
    by_cases h2:12<dps out
    ·rw[if_pos h2,if_pos (by simp; omega)]
    ·rw[if_neg h2,if_neg (by simp; omega)]
 ·have e0:((tokens s).2.2 != 0)=true:=by simp[h0]
  simp only[e0,if_true,if_neg h0]
end Go.Proofs.YtagokkpnfceidaaDoor
end

section
namespace Go.Proofs.YtagokkpnfceidaaDoor
open Go.RowKit
set_option linter.unusedSimpArgs false
set_option linter.unusedVariables false
def tz (t:Qab):Qab:=⟨t.Kind,t.Text,t.N,0,0⟩
abbrev zs (l:List Qab):List Qab:=l.map tz
def Rs.z {α : Type}:Rs α → Rs α
 | .ok x l =>.ok x (zs l)
 | .bad l =>.bad (zs l)
theorem hd_z (l:List Qab):hd (zs l)=tz (hd l):=by cases l<;>rfl
theorem kd_z (l:List Qab):kd (zs l)=kd l:=by cases l<;>rfl
theorem Qjp (l:List Qab):(zs l).tail=zs l.tail:=by cases l<;>rfl
theorem isW_z (w:List UInt8) (l:List Qab):isW w (zs l)=isW w l:=by cases l<;>rfl
theorem Q0n (w:List UInt8) (l:List Qab):ahead w (zs l)=ahead w l:=by
 unfold ahead
 rw[kd_z,Qjp,isW_z]
theorem Qdi {α β : Type} {r r' : Rs α} {f f' : α → List Qab→Rs β} (h:r' = r.z) (hf:∀ x l,f' x (zs l)=(f x l).z):r'.bind f' = (r.bind f).z:=by
 subst h
 cases r with
 | ok x l=>exact hf x l
 | bad l=>rfl
theorem Qnu {β : Type} (k:Int) (l:List Qab) {f f' : Qab→List Qab→Rs β} (hf:∀ t l,f' (tz t) (zs l)=(f t l).z):(want k (zs l)).bind f' = ((want k l).bind f).z:=by
 unfold want
 rw[kd_z,hd_z,Qjp]
 by_cases h:kd l=k
 ·rw[if_pos h,if_pos h]; exact hf _ _
 ·rw[if_neg h,if_neg h]; rfl
theorem Q4t (w:List UInt8) (l:List Qab):wantW w (zs l)=(wantW w l).z:=by
 unfold wantW
 rw[isW_z,Qjp]
 split<;>rfl
theorem Qwj (l:List Qab):nameR (zs l)=(nameR l).z:=by
 unfold nameR
 rw[kd_z,hd_z,Qjp]
 by_cases h:kd l=4∧nameP (hd l).Text=true
 ·rw[if_pos h,if_pos (show kd l=4∧nameP (tz (hd l)).Text=true from h)]; rfl
 ·rw[if_neg h,if_neg (show ¬ (kd l=4∧nameP (tz (hd l)).Text=true) from h)]; rfl
theorem Qys (w:List UInt8) (l:List Qab):endW w (zs l)=(endW w l).z :=
 Qnu 2 l fun _ l1=>Qdi (Q4t w l1) fun _ l2=>Qnu 3 l2 fun _ _=>rfl
theorem Q4u (l:List Qab):secretR (zs l)=(secretR l).z:=Qnu 8 l fun _ l1=>by
 rw[kd_z,hd_z,Qjp]
 by_cases h:kd l1=5∧wordP (hd l1).Text=true
 ·rw[if_pos h,if_pos (show kd l1=5∧wordP (tz (hd l1)).Text=true from h)]
  exact Qnu 9 _ fun _ _=>rfl
 ·rw[if_neg h,if_neg (show ¬ (kd l1=5∧wordP (tz (hd l1)).Text=true) from h)]; rfl
theorem ite_z {α : Type} {c:Prop} [Decidable c] {a b a' b' : Rs α} (h1:a' = a.z) (h2:b' = b.z):(if c then a' else b')=(if c then a else b).z:=by
 split<;>assumption
theorem Q66 {E E' : List Qab→Rs Qaa} (hE:∀ l,E' (zs l)=(E l).z) (l:List Qab):argsR E' (zs l)=(argsR E l).z:=by
 unfold argsR
 rw[kd_z,Qjp]
 refine ite_z rfl (Qdi (hE l) fun x1 l1=>?_)
 rw[kd_z,Qjp]
 refine ite_z (Qdi (hE _) fun x2 l2=>?_) (Qnu 9 _ fun _ _=>rfl)
 rw[kd_z,Qjp]
 exact ite_z (Qdi (hE _) fun x3 l3=>Qnu 9 _ fun _ _=>rfl) (Qnu 9 _ fun _ _=>rfl)
theorem Q59 {E E' : List Qab→Rs Qaa} (hE:∀ l,E' (zs l)=(E l).z) (l:List Qab):firstR E' (zs l)=(firstR E l).z:=by
 unfold firstR
 rw[kd_z,Qjp,hd_z,isW_z,isW_z,isW_z]
 refine ite_z rfl (ite_z rfl (ite_z rfl (ite_z rfl (ite_z (Q4u _) (Qdi (Qwj l) fun s l1=>?_)))))
 rw[kd_z,Qjp]
 exact ite_z (Qdi (Q66 hE _) fun _ _=>rfl) rfl
theorem Q4v:∀ (n:Nat) (x:Qaa) (l:List Qab),dotsR n x (zs l)=(dotsR n x l).z
 | 0,x,l=>rfl
 | n+1,x,l=>by
  unfold dotsR
  rw[kd_z,Qjp]
  exact ite_z (Qnu 4 _ fun t l2=>Q4v n _ l2) rfl
theorem Q4w:∀ (f:Nat) (l:List Qab),exprR f (zs l)=(exprR f l).z
 | 0,l=>rfl
 | f+1,l=>by
  unfold exprR
  refine Qdi (Q59 (Q4w f) l) fun x l1=>?_
  rw[List.length_map]
  exact Q4v _ x l1
theorem Q7f (l:List Qab):ex20 (zs l)=(ex20 l).z:=by
 unfold ex20
 rw[List.length_map]
 exact Q4w _ l
theorem Qmu (l:List Qab):closedR (zs l)=(closedR l).z:=Qdi (Q7f l) fun x l1=>Qnu 3 l1 fun _ _=>rfl
theorem Q7g {B B' : Bool→Bool→List Qab→Rs (List Qaa)} (hB:∀ i o l,B' i o (zs l)=(B i o l).z) (l:List Qab):actR B' (zs l)=(actR B l).z:=by
 unfold actR
 rw[isW_z,isW_z,isW_z,isW_z,Qjp]
 refine ite_z (Qdi (Qmu _) fun x l1=>Qdi (hB _ _ _) fun y l2=>?_) (ite_z ?_ (ite_z ?_ (ite_z ?_ (Qdi (Qmu _) fun _ _=>rfl))))
 ·rw[Q0n]
  exact ite_z (Qdi (Qys _ _) fun _ l3=>Qdi (hB _ _ _) fun z l4=>Qdi (Qys _ _) fun _ _=>rfl) (Qdi (Qys _ _) fun _ _=>rfl)
 ·exact Qdi (Qwj _) fun s l1=>Qdi (Q4t _ _) fun _ l2=>Qdi (Qmu _) fun x l3=>Qdi (hB _ _ _) fun y l4=>Qdi (Qys _ _) fun _ _=>rfl
 ·exact Qdi (Qwj _) fun s l1=>Qnu 11 _ fun _ l2=>Qdi (Qmu _) fun x l3=>Qdi (hB _ _ _) fun y l4=>Qdi (Qys _ _) fun _ _=>rfl
 ·exact Qdi (Qwj _) fun s l1=>Qdi (Qmu _) fun x l2=>rfl
theorem Q6l {l:List Qab}:zs l=[]↔l=[]:=by simp
theorem Qsl:∀ (f:Nat) (i o:Bool) (out:List Qaa) (l:List Qab),loopR f i o out (zs l)=(loopR f i o out l).z
 | 0,_,_,_,l=>rfl
 | f+1,i,o,out,l=>by
  unfold loopR
  rw[kd_z,hd_z,Qjp,Q0n,Q0n,kd_z,Qjp]
  by_cases hn:l=[]
  ·rw[if_pos hn,if_pos (Q6l.2 hn)]; rfl
  ·rw[if_neg hn,if_neg (fun h=>hn (Q6l.1 h))]
   refine ite_z (Qsl f _ _ _ _) (ite_z rfl (ite_z (ite_z (Qsl f _ _ _ _) (Qdi (Q7g (fun i o l=>Qsl f i o [] l) _) fun x l2=>Qsl f _ _ _ _)) rfl))
theorem Q7h (i o:Bool) (l:List Qab):bl20 i o (zs l)=(bl20 i o l).z:=by
 unfold bl20
 rw[List.length_map]
 exact Qsl _ _ _ _ l
end Go.Proofs.YtagokkpnfceidaaDoor
end

section
namespace Go.Proofs.YtagokkpnfceidaaDoor
open Go.RowKit
theorem Q67 (r:List UInt8):∀ (m:Nat) (t:List UInt8) (n:Nat),t.length≤m→utfF m t=true→t.any (· == 13)=false→(qs t).length<n→quoP n (qs t++34::r)=some (t,(qs t).length+1):=by
 intro m
 induction m with
 | zero =>
  intro t n hm _ _ hn
  have:t=[]:=List.eq_nil_of_length_eq_zero (by omega)
  subst this
  obtain⟨n', rfl⟩:∃ n', n=n' + 1:=⟨n-1,by omega⟩
  rfl
 | succ m ih =>
  intro t n hm hu h13 hn
  obtain⟨n', rfl⟩:∃ n', n=n' + 1:=⟨n-1,by omega⟩
  cases t with
  | nil=>rfl
  | cons c t =>
   rw[Qsi m _ (List.cons_ne_nil _ _)] at hu
   have hg:¬ ((nextP (c::t)).1=65533∧(nextP (c::t)).2=1):=fun q=>by rw[if_pos q] at hu; cases hu
   rw[if_neg hg] at hu
   by_cases hc:128≤c.toNat
   ·obtain⟨w,rest,e,e2,hw2,hwb,hv,hloc⟩:=Qsj c t hc hg
    have hq:qs (c::t)=w++qs rest:=by rw[e,Q7e,Q4o w hwb]
    have hdr:(c::t).drop (nextP (c::t)).2=rest:=by
     show(c::t).drop (nextC c t).2=rest
     rw[e2,e,List.drop_left]
    rw[hdr] at hu
    have h13r:rest.any (· == 13)=false:=by
     rw[e,List.any_append,Bool.or_eq_false_iff] at h13; exact h13.2
    cases w with
    | nil=>simp at hw2
    | cons d w =>
     have hdc:d=c:=by rw[List.cons_append] at e; cases e; rfl
     have hlen:=congrArg List.length e
     rw[List.length_append] at hlen
     rw[hq] at hn ⊢
     rw[List.length_append] at hn
     have hN:=hloc (qs rest++34::r)
     have hlw:2≤(d::w).length:=hw2
     have ir:=ih rest n' (by simp only[List.length_cons] at hlen hm hlw; omega) hu h13r (by omega)
     have hN' : nextP (d::(w++(qs rest++34::r)))=nextC c t:=hN
     have n34:d≠34:=fun q=>by rw[hdc] at q; subst q; revert hc; decide
     have n92:d≠92:=fun q=>by rw[hdc] at q; subst q; revert hc; decide
     have nb:¬ badR (d::(w++(qs rest++34::r))):=by
      unfold badR
      rw[hN']
      rintro (h | h | h)
      ·omega
      ·omega
      ·exact hg h
     rw[List.append_assoc]
     show quoP (n' + 1) (d::(w++(qs rest++34::r)))=_
     rw[Qgq,if_neg n34,if_neg n92,if_neg nb,hN', e2]
     have ed:(d::(w++(qs rest++34::r))).drop (d::w).length=qs rest++34::r:=by
      rw[← List.cons_append,List.drop_left]
     have et:(d::(w++(qs rest++34::r))).take (d::w).length=d::w:=by
      rw[← List.cons_append,List.take_left]
     rw[ed,et,ir,Option.map_some,e,List.length_append,Nat.add_assoc]
   ·have hlt:c.toNat<128:=by omega
    have hn1:∀ r,nextP (c::r)=(c.toNat,1):=fun r=>by rw[nextP]; unfold nextC; rw[if_pos hlt]
    rw[hn1] at hu
    simp only[List.drop_succ_cons,List.drop_zero] at hu
    have hc13:c≠13:=fun q=>by subst q; simp at h13
    have h13t:t.any (· == 13)=false:=by rw[List.any_cons,Bool.or_eq_false_iff] at h13; exact h13.2
    have hq:qs (c::t)=qb c++qs t:=rfl
    rw[List.length_cons] at hm
    have esc:∀ d,qb c=[92,d]→escP d=some c→quoP (n' + 1) (qs (c::t)++34::r)=some (c::t,(qs (c::t)).length+1):=fun d hd hE=>by
     rw[hq,hd] at hn ⊢
     simp only[List.length_append,List.length_cons,List.length_nil] at hn
     show quoP (n' + 1) (92::d::(qs t++34::r))=_
     rw[Qgq,if_neg (show ¬ (92:UInt8)=34 by decide),if_pos rfl,escR,hE]
     simp only
     rw[ih t n' (by omega) hu h13t (by omega)]
     simp only[Option.map_some,List.length_append,List.length_cons,List.length_nil]
     congr 2
     omega
    by_cases a:c=10
    ·exact esc 110 (by subst a; rfl) (by subst a; rfl)
    by_cases b:c=9
    ·exact esc 116 (by subst b; rfl) (by subst b; rfl)
    by_cases d:c=34∨c=92
    ·exact esc c (by unfold qb; rw[if_neg a,if_neg b,if_pos d]) (by rcases d with rfl | rfl<;>rfl)
    ·have e:qb c=[c]:=by unfold qb; rw[if_neg a,if_neg b,if_neg d]
     have hne:∀ x:UInt8,c≠x→c.toNat≠x.toNat:=fun x hx q=>hx (UInt8.toNat_inj.1 q)
     rw[hq,e] at hn ⊢
     simp only[List.length_append,List.length_cons,List.length_nil] at hn
     show quoP (n' + 1) (c::(qs t++34::r))=_
     have nb:¬ badR (c::(qs t++34::r)):=by
      unfold badR
      rw[hn1]
      rintro (h | h | h)
      ·exact hne 10 a h
      ·exact hne 13 hc13 h
      ·have:=h.1
       simp only at this
       omega
     rw[Qgq,if_neg (fun h=>d (.inl h)),if_neg (fun h=>d (.inr h)),if_neg nb,hn1]
     simp only[List.drop_succ_cons,List.drop_zero,List.take_succ_cons,List.take_zero]
     rw[ih t n' (by omega) hu h13t (by omega)]
     simp only[Option.map_some,List.length_append,List.length_cons,List.length_nil,List.singleton_append]
     congr 2
     omega
end Go.Proofs.YtagokkpnfceidaaDoor
end

section
namespace Go.Proofs.YtagokkpnfceidaaDoor
open Go.RowKit
def NoLet (r:List UInt8):Prop:=∃ c r', r=c::r' ∧ letB c=false
theorem NoLet.cons {c:UInt8} {r:List UInt8} (h:letB c=false):NoLet (c::r):=⟨c,r,rfl,h⟩
theorem Qsm {c:UInt8} (h:smallB c=true):blB c=false∧c≠125∧sgP c=none∧c≠34∧c≠35:=by
 have h1:97≤c.toNat∧c.toNat≤122:=by simpa [smallB] using h
 have ne:∀ d:UInt8,(d.toNat<97∨122<d.toNat)→c≠d:=fun d hd e=>by subst e; omega
 have f1:=ne 46 (by decide)
 have f2:=ne 40 (by decide)
 have f3:=ne 41 (by decide)
 have f4:=ne 44 (by decide)
 have f5:=ne 61 (by decide)
 refine⟨?_,ne 125 (by decide),by simp[sgP,f1,f2,f3,f4,f5],ne 34 (by decide),ne 35 (by decide)⟩
 simp only[blB,Bool.or_eq_false_iff,beq_eq_false_iff_ne]
 omega
theorem Qyt {w:List UInt8} (h:wordP w=true):∃ c t,w=c::t∧smallB c=true∧t.all letB=true∧w.length≤32:=by
 rw[wordP,Bool.and_eq_true,Bool.and_eq_true,Bool.and_eq_true] at h
 obtain⟨h1,h2,h3,h4⟩:=h
 cases w with
 | nil=>cases h1
 | cons c t =>
  rw[List.all_cons,Bool.and_eq_true] at h4
  refine⟨c,t,rfl,?_,h4.2,of_decide_eq_true h2⟩
  rw[letSmall h4.1]
  exact h3
theorem Quh (n:Int):∃ c t,textL n=c::t∧(c=45∨digB c=true)∧t.all digB=true:=by
 unfold textL
 split
 ·exact⟨45,_,rfl,.inl rfl,Qol _⟩
 ·have h:=Qol n.natAbs
  cases hd:digs n.natAbs with
  | nil=>exact absurd hd (Qzw _)
  | cons c t =>
   rw[hd,List.all_cons,Bool.and_eq_true] at h
   exact⟨c,t,rfl,.inr h.1,h.2⟩
theorem Qyu {c:UInt8} (h:c=45∨digB c=true):blB c=false∧c≠125∧sgP c=none∧c≠34∧¬ smallB c=true∧c≠35:=by
 have h1:c.toNat=45∨(48≤c.toNat∧c.toNat≤57):=by
  rcases h with rfl | h
  ·exact .inl rfl
  ·exact .inr (by simpa [digB] using h)
 have ne:∀ d:UInt8,(d.toNat<45∨57<d.toNat∨46=d.toNat)→c≠d:=fun d hd e=>by subst e; omega
 have f1:=ne 46 (by decide)
 have f2:=ne 40 (by decide)
 have f3:=ne 41 (by decide)
 have f4:=ne 44 (by decide)
 have f5:=ne 61 (by decide)
 refine⟨?_,ne 125 (by decide),by simp[sgP,f1,f2,f3,f4,f5],ne 34 (by decide),?_,ne 35 (by decide)⟩
 ·simp only[blB,Bool.or_eq_false_iff,beq_eq_false_iff_ne]
  omega
 ·intro q
  have:97≤c.toNat∧c.toNat≤122:=by simpa [smallB] using q
  omega
theorem Qsn:∀ w:List UInt8,w.all letB=true→qs w=w∧w.any (· == 13)=false∧∀ n,w.length≤n→utfF n w=true
 | [],_=>⟨rfl,rfl,fun n _=>by cases n<;>rfl⟩
 | c::t,h=>by
  rw[List.all_cons,Bool.and_eq_true] at h
  obtain⟨i1,i2,i3⟩:=Qsn t h.2
  have hl:(97≤c.toNat∧c.toNat≤122)∨(48≤c.toNat∧c.toNat≤57)∨c.toNat=95:=by simpa [letB,smallB,digB] using h.1
  have ne:∀ d:UInt8,(d.toNat<48∨d.toNat=92)→c≠d:=fun d hd e=>by subst e; omega
  have e:qb c=[c]:=by
   unfold qb
   rw[if_neg (ne 10 (by decide)),if_neg (ne 9 (by decide)),if_neg (by intro q; rcases q with q | q; exact ne 34 (by decide) q; exact ne 92 (by decide) q)]
  refine⟨?_,?_,fun n hn=>?_⟩
  ·show qb c++qs t=_
   rw[e,i1]; rfl
  ·rw[List.any_cons,i2,Bool.or_false,beq_eq_false_iff_ne]
   exact ne 13 (by decide)
  ·cases n with
   | zero=>simp at hn
   | succ n =>
    have hn1:nextP (c::t)=(c.toNat,1):=by rw[nextP]; unfold nextC; rw[if_pos (by omega)]
    rw[Qsi n _ (List.cons_ne_nil _ _),hn1]
    rw[if_neg (by intro q; have:=q.1; simp only at this; omega)]
    exact i3 n (by simp at hn; omega)
theorem Q4x {s:List UInt8} (hs:s.length≤1000000) (h:(quoteP s).2=true):(quoteP s).1=34::qs s++[34]∧utfF s.length s=true∧s.any (· == 13)=false:=by
 rw[quoteP,(quoteR s hs).1,Option.getD_some,quoV] at h ⊢
 by_cases hc:utfF s.length s=true∧s.any (· == 13)=false
 ·rw[if_pos hc]; exact⟨rfl,hc⟩
 ·rw[if_neg hc] at h; cases h
theorem Qwk {w:List UInt8} (h:wordP w=true):∃ c t,w=c::t∧blB c=false∧(c==35)=false:=by
 obtain⟨c,t,e,hc,-⟩:=Qyt h
 obtain⟨p1,-,-,-,p5⟩:=Qsm hc
 exact⟨c,t,e,p1,beq_eq_false_iff_ne.2 p5⟩
theorem Qyv {w v:List UInt8} (h:∃ c t,w=c::t∧blB c=false∧(c==35)=false):∃ c t,w++v=c::t∧blB c=false∧(c==35)=false:=by
 obtain⟨c,t,rfl,h⟩:=h
 exact⟨c,t++v,rfl,h⟩
theorem secretW:wordP [115,101,99,114,101,116]=true:=by decide
end Go.Proofs.YtagokkpnfceidaaDoor
end

section
namespace Go.Proofs.YtagokkpnfceidaaDoor
open Go.RowKit
def Puts (w:List UInt8) (acc:List Int) (o:Option (Bool×List Int)):Prop:=∃ f,o=some (f,acc++s2b w)
abbrev room:Nat:=100000000000
theorem Puts.seq {w1 w2:List UInt8} {acc:List Int} {o:Option (Bool×List Int)} {g:Bool×List Int→Option (Bool×List Int)} (h:Puts w1 acc o) (k:∀ f,Puts w2 (acc++s2b w1) (g (f,acc++s2b w1))):Puts (w1++w2) acc (o>>=g):=by
 obtain⟨f,rfl⟩:=h
 obtain⟨f', hf⟩:=k f
 refine⟨f', ?_⟩
 rw[Qad,hf,Q0g,List.append_assoc]
theorem Puts.ret {w:List UInt8} {acc:List Int} {o:Option (Bool×List Int)} (h:Puts w acc o):Puts w acc (o>>=fun x=>some (x.1,x.2)):=by
 obtain⟨f,rfl⟩:=h
 exact⟨f,rfl⟩
mutual
noncomputable def exprW:Qaa→List UInt8
 | ⟨k,s,t,n,a,_,_⟩ =>
  if k==1 then(quoteP t).1 else
  if k==2 then textL n else
  if k==3 then(if n==1 then [116,114,117,101] else [102,97,108,115,101]) else
  if k==4 then s else
  if k==7 then [115,101,99,114,101,116,40,34]++(s++[34,41]) else
  if k==5 then headW a++([46]++s) else
  if k==6 then(s++[40])++(argsW a false++[41]) else []
noncomputable def headW:List Qaa→List UInt8
 | []=>[]
 | x::_=>exprW x
noncomputable def argsW:List Qaa→Bool→List UInt8
 | [],_=>[]
 | x::r,more=>(if more then [44,32] else [])++(exprW x++argsW r true)
end
theorem Qwl (x:Qaa):exprW x =
  if x.Kind==1 then(quoteP x.Text).1 else
  if x.Kind==2 then textL x.N else
  if x.Kind==3 then(if x.N==1 then [116,114,117,101] else [102,97,108,115,101]) else
  if x.Kind==4 then x.Name else
  if x.Kind==7 then [115,101,99,114,101,116,40,34]++(x.Name++[34,41]) else
  if x.Kind==5 then headW x.L++([46]++x.Name) else
  if x.Kind==6 then(x.Name++[40])++(argsW x.L false++[41]) else []:=by cases x; rw[exprW]
section
end
end Go.Proofs.YtagokkpnfceidaaDoor
end

section
namespace Go.Proofs.YtagokkpnfceidaaDoor
open Go.RowKit
def wordsW (k:Int) (s:List UInt8):List UInt8 :=
 if k==9 then [] else if k==13 then([117,115,101,32]++s)++[32] else if k==10 then [105,102,32] else if k==11 then([101,97,99,104,32]++s)++[32,105,110,32] else([108,101,116,32]++s)++[32,61,32]
noncomputable def actW (k:Int) (s:List UInt8) (a:List Qaa):List UInt8:=([123,123,32]++wordsW k s)++(headW a++[32,125,125])
mutual
noncomputable def stmtW:Qaa→List UInt8
 | ⟨k,s,t,_,a,b,c⟩ =>
  if k==8 then t else
  if k==9||k==13 then actW k s a else
  actW k s a++(blockW b++((if zl c then [] else [123,123,32,101,108,115,101,32,125,125]++blockW c)++[123,123,32,101,110,100,32,125,125]))
noncomputable def blockW:List Qaa→List UInt8
 | []=>[]
 | x::r=>stmtW x++blockW r
end
theorem Qwm (x:Qaa):stmtW x =
  if x.Kind==8 then x.Text else
  if x.Kind==9||x.Kind==13 then actW x.Kind x.Name x.L else
  actW x.Kind x.Name x.L++(blockW x.Then++((if zl x.Else then [] else [123,123,32,101,108,115,101,32,125,125]++blockW x.Else)++[123,123,32,101,110,100,32,125,125])):=by cases x; rw[stmtW]
noncomputable def printP (l:List Qaa):List UInt8×Bool:=if isP l=true then(if(blockW l).length≤65536 then(blockW l,true) else([],false)) else([],false)
end Go.Proofs.YtagokkpnfceidaaDoor
end

section
namespace Go.Proofs.YtagokkpnfceidaaDoor
open Go.RowKit
set_option linter.unusedSimpArgs false
set_option linter.unusedVariables false
abbrev zt (k:Int) (t:List UInt8) (n:Int):Qab:=⟨k,t,n,0,0⟩
def RO (r:List UInt8) (T:List Qab):Prop:=∀ (s:List UInt8) (k n:Nat) (acc:List Qab),s.drop k=r→k≤s.length→r.length<n→∃ L,tokO s n k acc=(acc++L,0,0)∧zs L=T
def RI (r:List UInt8) (T:List Qab):Prop:=∀ (s:List UInt8) (k n:Nat) (acc:List Qab),s.drop k=r→k≤s.length→r.length<n→∃ L k' T', tokI s n k acc = .inl (acc++L,k')∧k<k' ∧ k' ≤ s.length∧RO (s.drop k') T' ∧ T=zs L++T'
theorem Qo6 {s r:List UInt8} {k:Nat} (h:s.drop k=r):s.length-k=r.length:=by rw[← h,List.length_drop]
theorem Q6m:∀ t:List UInt8,hasB t=false→fnd 123 123 t=t.length
 | [],_=>rfl
 | [c],_=>rfl
 | c::d::r,h=>by
  rw[hasB,Bool.or_eq_false_iff] at h
  have h1:two 123 123 (c::d::r)=false:=by
   have:=h.1
   simpa [two] using this
  rw[fnd,h1,Q6m (d::r) h.2]
  simp; omega
theorem Q4y:∀ (t r:List UInt8),hasB t=false→endB t=false→fnd 123 123 (t++123::123::r)=t.length
 | [],r,_,_=>rfl
 | [c],r,_,he=>by
  have hc:(c==123)=false:=by simpa [endB] using he
  show fnd 123 123 (c::123::123::r)=1
  rw[fnd,show two 123 123 (c::123::123::r)=false by simp[two,hc]]
  rfl
 | c::d::t,r,h,he=>by
  rw[hasB,Bool.or_eq_false_iff] at h
  have h1:two 123 123 (c::d::(t++123::123::r))=false:=by
   have:=h.1
   simpa [two] using this
  have he' : endB (d::t)=false:=by
   unfold endB at he ⊢
   rwa [List.getLast?_cons_cons] at he
  have ih:=Q4y (d::t) r h.2 he'
  show fnd 123 123 (c::d::(t++123::123::r))=_
  rw[fnd,h1]
  rw[List.cons_append] at ih
  rw[ih]
  simp; omega
def litZ (t:List UInt8):List Qab:=if t=[] then [] else [zt 1 t 0]
theorem Q6n (s:List UInt8) (k:Nat) (acc:List Qab) (t r:List UInt8) (h:s.drop k=t++r) (hf:fnd 123 123 (s.drop k)=t.length):∃ L,litT s k acc=acc++L∧zs L=litZ t:=by
 unfold litT litZ
 rw[hf]
 cases t with
 | nil=>exact⟨[],by simp,rfl⟩
 | cons c t =>
  refine⟨[putT 1 (c::t) 0 k (c::t).length],?_,rfl⟩
  rw[if_pos (by simp),h,List.take_left]
theorem RO.last (t:List UInt8) (hb:hasB t=false):RO t (litZ t):=fun s k n acc h hk hn=>by
 cases n with
 | zero=>omega
 | succ n =>
  have hf:fnd 123 123 (s.drop k)=t.length:=by rw[h]; exact Q6m t hb
  obtain⟨L,h1,h2⟩:=Q6n s k acc t [] (by rw[List.append_nil]; exact h) hf
  have:=Qo6 h
  refine⟨L,?_,h2⟩
  rw[tokO,hf,if_neg (by omega),h1]
theorem RO.nil:RO [] []:=RO.last [] rfl
def ROp (r:List UInt8) (T:List Qab):Prop:=∃ c r' T', r=123::123::32::c::r' ∧ blB c=false∧(c==35)=false∧T=zt 2 [] 0::T' ∧ RI (c::r') T'
theorem ROp.ro (t:List UInt8) {r:List UInt8} {T:List Qab} (h:ROp r T) (hb:hasB t=false) (he:endB t=false):RO (t++r) (litZ t++T):=fun s k n acc hd hk hn=>by
 obtain⟨c,r', T', rfl,hc,h35,rfl,hA⟩:=h
 cases n with
 | zero=>omega
 | succ n =>
  have hf:fnd 123 123 (s.drop k)=t.length:=by rw[hd]; exact Q4y t _ hb he
  obtain⟨L,h1,h2⟩:=Q6n s k acc t _ hd hf
  have hl:=Qo6 hd
  rw[List.length_append] at hl hn
  simp only[List.length_cons] at hl hn
  obtain⟨d1,d2⟩:=Q1q hd
  have d3:s.drop (k+t.length+2)=32::c::r' := by rw[← List.drop_drop,d1]; rfl
  have d4:s.drop (k+t.length+2+1)=c::r' := by rw[← List.drop_drop,d3]; rfl
  have hbl:blN (32::c::r')=1:=by rw[Qlb,show blB 32=true from rfl,if_pos rfl,Qlb,hc]; rfl
  have hop:openK s (k+t.length)=k+t.length+2+1:=by
   unfold openK
   rw[d3,hbl,d4,oneB,h35]; rfl
  obtain⟨L2,k', T2,g1,g2,g3,g4,g5⟩:=hA s (k+t.length+2+1) (s.length+1) (litT s k acc++[putT 2 [] 0 (k+t.length) 2]) d4 (by omega) (by simp only[List.length_cons]; omega)
  obtain⟨L3,e1,e2⟩:=g4 s k' n (litT s k acc++[putT 2 [] 0 (k+t.length) 2]++L2) rfl g3 (by rw[List.length_drop]; omega)
  refine⟨L++([putT 2 [] 0 (k+t.length) 2]++(L2++L3)),?_,?_⟩
  ·rw[tokO,hf,if_pos (by omega),hop,g1]
   simp only
   rw[e1,h1]
   simp only[List.append_assoc]
  ·have z:∀ a b:List Qab,zs (a++b)=zs a++zs b:=fun a b=>List.map_append
   rw[z,z,z,h2,e2,g5]
   rfl
theorem ROp.ro0 {r:List UInt8} {T:List Qab} (h:ROp r T):RO r T:=h.ro [] rfl rfl
theorem RI.blank {r:List UInt8} {T:List Qab} (h:RI r T):RI (32::r) T:=fun s k n acc hd hk hn=>by
 have hl:=Qo6 hd
 simp only[List.length_cons] at hl hn
 have d1:s.drop (k+1)=r:=by rw[← List.drop_drop,hd]; rfl
 cases n with
 | zero=>omega
 | succ n =>
  obtain⟨L,k', T', g1,g2,g3,g4,g5⟩:=h s (k+1) (n+1) acc d1 (by omega) (by omega)
  refine⟨L,k', T', ?_,by omega,g3,g4,g5⟩
  have e:k+blN (32::r)=k+1+blN r:=by rw[Qlb,show blB 32=true from rfl,if_pos rfl]; omega
  rw[← g1,tokI,tokI,hd,d1,e]
theorem RI.one {w r:List UInt8} {T:List Qab} {j:Int} {t:List UInt8} {v:Int} (ho:one18 (w++r)=some (j,t,v,w.length)) (hw:∃ c w', w=c::w' ∧ blB c=false∧c≠125) (h:RI r T):RI (w++r) (zt j t v::T):=fun s k n acc hd hk hn=>by
 obtain⟨c,w', rfl,hb,h125⟩:=hw
 have hl:=Qo6 hd
 rw[List.length_append] at hl hn
 simp only[List.length_cons] at hl hn
 obtain⟨d1,d2⟩:=Q1q hd
 have hb0:blN ((c::w')++r)=0:=by rw[List.cons_append,Qlb,hb]; rfl
 have h2:two 125 125 ((c::w')++r)=false:=by
  have e:(c==125)=false:=beq_eq_false_iff_ne.2 h125
  cases hx:w' ++ r with
  | nil=>simp[two,hx]
  | cons d q=>simp[two,hx,e]
 cases n with
 | zero=>omega
 | succ n =>
  obtain⟨L,k', T', g1,g2,g3,g4,g5⟩:=h s (k+(c::w').length) n (acc++[putT j t v k (c::w').length]) d1 (d2 hk) (by omega)
  refine⟨putT j t v k (c::w').length::L,k', T', ?_,by simp only[List.length_cons] at g2; omega,g3,g4,?_⟩
  ·rw[tokI,hd,hb0,Nat.add_zero,hd,h2,if_neg (by decide),ho]
   simp only
   rw[g1,List.append_assoc]; rfl
  ·rw[g5]; rfl
theorem RI.close {r:List UInt8} {T:List Qab} (h:RO r T):RI (125::125::r) (zt 3 [] 0::T):=fun s k n acc hd hk hn=>by
 have hl:=Qo6 hd
 simp only[List.length_cons] at hl hn
 have hb0:blN (125::125::r)=0:=by rw[Qlb]; rfl
 have d2:s.drop (k+2)=r:=by rw[← List.drop_drop,hd]; rfl
 cases n with
 | zero=>omega
 | succ n =>
  refine⟨[putT 3 [] 0 k 2],k+2,T,?_,by omega,by omega,by rw[d2]; exact h,rfl⟩
  rw[tokI,hd,hb0,Nat.add_zero,hd,if_pos (by rfl)]
theorem RI.sign {c:UInt8} {j:Int} (hc:sgP c=some j) (hb:blB c=false) (h125:c≠125) {r:List UInt8} {T:List Qab} (h:RI r T):RI (c::r) (zt j [] 0::T) :=
 RI.one (w:=[c]) (by rw[List.cons_append,Qio,hc]; rfl) ⟨c,[],rfl,hb,h125⟩ h
theorem RI.dot {r:List UInt8} {T:List Qab} (h:RI r T):RI (46::r) (zt 7 [] 0::T):=RI.sign (by rfl) (by rfl) (by decide) h
theorem RI.opn {r:List UInt8} {T:List Qab} (h:RI r T):RI (40::r) (zt 8 [] 0::T):=RI.sign (by rfl) (by rfl) (by decide) h
theorem RI.cls {r:List UInt8} {T:List Qab} (h:RI r T):RI (41::r) (zt 9 [] 0::T):=RI.sign (by rfl) (by rfl) (by decide) h
theorem RI.comma {r:List UInt8} {T:List Qab} (h:RI r T):RI (44::r) (zt 10 [] 0::T):=RI.sign (by rfl) (by rfl) (by decide) h
theorem RI.eq {r:List UInt8} {T:List Qab} (h:RI r T):RI (61::r) (zt 11 [] 0::T):=RI.sign (by rfl) (by rfl) (by decide) h
theorem Q0o (p:UInt8→Bool):∀ (t:List UInt8) {c:UInt8} {r:List UInt8},t.all p=true→p c=false→run p (t++c::r)=t.length
 | [],c,r,_,h=>by rw[List.nil_append,Qnc,h]; rfl
 | d::t,c,r,ha,h=>by
  rw[List.all_cons,Bool.and_eq_true] at ha
  rw[List.cons_append,Qnc,ha.1,if_pos rfl,Q0o p t ha.2 h,List.length_cons]; omega
theorem RI.word {w r:List UInt8} {T:List Qab} (hw:wordP w=true) (hr:NoLet r) (h:RI r T):RI (w++r) (zt 4 w 0::T):=by
 obtain⟨c,t,rfl,hc,ht,hl⟩:=Qyt hw
 obtain⟨p1,p2,p3,p4,-⟩:=Qsm hc
 obtain⟨d,r', rfl,hd⟩:=hr
 refine RI.one ?_ ⟨c,t,rfl,p1,p2⟩ h
 have e:run letB (t++d::r')=t.length:=Q0o letB t ht hd
 have ek:1+t.length=(c::t).length:=by simp; omega
 have et:(c::(t++d::r')).take (c::t).length=c::t:=by rw[← List.cons_append,List.take_left]
 rw[List.cons_append,Qio,p3]
 simp only
 rw[if_neg p4,if_pos hc,e,ek,et,if_pos hw]
theorem NoLet.noDig {r:List UInt8} (h:NoLet r):∃ c r', r=c::r' ∧ digB c=false:=by
 obtain⟨c,r', e,hc⟩:=h
 refine⟨c,r', e,?_⟩
 rw[letB,Bool.or_eq_false_iff,Bool.or_eq_false_iff] at hc
 exact hc.2.1
theorem RI.num {n:Int} (hn:inI64 n) {r:List UInt8} {T:List Qab} (hr:NoLet r) (h:RI r T):RI (textL n++r) (zt 6 [] n::T):=by
 obtain⟨c,t,e,hc,ht⟩:=Quh n
 obtain⟨p1,p2,p3,p4,p5,-⟩:=Qyu hc
 have hnum:=Q3y n hn
 obtain⟨d,r', rfl,hd⟩:=hr.noDig
 rw[e] at hnum ⊢
 refine RI.one ?_ ⟨c,t,rfl,p1,p2⟩ h
 have e1:run digB (t++d::r')=t.length:=Q0o digB t ht hd
 have ek:1+t.length=(c::t).length:=by simp; omega
 have et:(c::(t++d::r')).take (c::t).length=c::t:=by rw[← List.cons_append,List.take_left]
 rw[List.cons_append,Qio,p3]
 simp only
 rw[if_neg p4,if_neg p5,if_pos hc,e1,ek,et,hnum,if_pos rfl]
theorem RI.quoted {t r:List UInt8} {T:List Qab} (hu:utfF t.length t=true) (h13:t.any (· == 13)=false) (h:RI r T):RI ((34::qs t++[34])++r) (zt 5 t 0::T):=by
 refine RI.one ?_ ⟨34,qs t++[34],rfl,by rfl,by decide⟩ h
 have e:(34::qs t++[34])++r=34::(qs t++34::r):=by simp
 rw[e,Qio,show sgP 34=none from rfl]
 simp only
 rw[if_pos trivial,Q67 r t.length t _ (Nat.le_refl _) hu h13 (by simp; omega),Option.map_some]
 congr 4
 simp; omega
mutual
noncomputable def exprT:Qaa→List Qab
 | ⟨k,s,t,n,a,_,_⟩ =>
  if k==1 then [zt 5 t 0] else
  if k==2 then [zt 6 [] n] else
  if k==3 then [zt 4 (if n==1 then wTrue else wFalse) 0] else
  if k==4 then [zt 4 s 0] else
  if k==7 then [zt 4 wSecret 0,zt 8 [] 0,zt 5 s 0,zt 9 [] 0] else
  if k==5 then headT a++[zt 7 [] 0,zt 4 s 0] else
  if k==6 then zt 4 s 0::zt 8 [] 0::(argsT a false++[zt 9 [] 0]) else []
noncomputable def headT:List Qaa→List Qab
 | []=>[]
 | x::_=>exprT x
noncomputable def argsT:List Qaa→Bool→List Qab
 | [],_=>[]
 | x::r,more=>(if more then [zt 10 [] 0] else [])++(exprT x++argsT r true)
end
theorem Qwn (x:Qaa):exprT x =
  if x.Kind==1 then [zt 5 x.Text 0] else
  if x.Kind==2 then [zt 6 [] x.N] else
  if x.Kind==3 then [zt 4 (if x.N==1 then wTrue else wFalse) 0] else
  if x.Kind==4 then [zt 4 x.Name 0] else
  if x.Kind==7 then [zt 4 wSecret 0,zt 8 [] 0,zt 5 x.Name 0,zt 9 [] 0] else
  if x.Kind==5 then headT x.L++[zt 7 [] 0,zt 4 x.Name 0] else
  if x.Kind==6 then zt 4 x.Name 0::zt 8 [] 0::(argsT x.L false++[zt 9 [] 0]) else []:=by cases x; rw[exprT]
structure RTk (w:List UInt8) (T:List Qab):Prop where
 hd:∃ c t,w=c::t∧blB c=false∧(c==35)=false
 ok:∀ r S,NoLet r→RI r S→RI (w++r) (T++S)
theorem RTk.word {w:List UInt8} (h:wordP w=true):RTk w [zt 4 w 0]:=⟨Qwk h,fun _ _ hr ha=>RI.word h hr ha⟩
theorem rtkArgs:∀ (l:List Qaa),(∀ x ∈ l,RTk (exprW x) (exprT x))→∀ (more:Bool) (r:List UInt8) (S:List Qab),RI r S→RI (argsW l more++(41::r)) (argsT l more++(zt 9 [] 0::S))∧(more=true→NoLet (argsW l more++(41::r)))
 | [],_,more,r,S,h=>by
  rw[argsW,List.nil_append,argsT,List.nil_append]
  exact⟨RI.cls h,fun _=>NoLet.cons (by rfl)⟩
 | x::l,hx,more,r,S,h=>by
  obtain⟨i1,i2⟩:=rtkArgs l (fun y hy=>hx y (List.mem_cons_of_mem _ hy)) true r S h
  have hA:=(hx x (List.mem_cons_self ..)).ok _ _ (i2 rfl) i1
  rw[argsW,argsT]
  cases more with
  | false =>
   simp only[Bool.false_eq_true,if_false,List.nil_append,List.append_assoc]
   exact⟨hA,fun q=>by cases q⟩
  | true =>
   simp only[if_true,List.append_assoc,List.cons_append,List.nil_append]
   exact⟨RI.comma (RI.blank hA),fun _=>NoLet.cons (by rfl)⟩
theorem rtkExpr:∀ n (x:Qaa),nn x≤n→allN okNd x→exprP x=true→RTk (exprW x) (exprT x):=by
 intro n
 induction n with
 | zero=>intro x h; have:=Qgp x; omega
 | succ n ih =>
  intro x h ho he
  rw[nn_eq] at h
  obtain⟨hq,ho1,-,-⟩:=(Qe5 okNd x).1 ho
  rw[Qwl,Qwn]
  rw[Qo2] at he
  by_cases k1:x.Kind=1
  ·simp only[k1,beq_self_eq_true,if_true,Bool.and_eq_true] at he ⊢
   obtain⟨e,hu,h13⟩:=Q4x hq.tx he.1
   rw[e]
   exact⟨⟨34,_,rfl,by rfl,by rfl⟩,fun r S _ ha=>RI.quoted hu h13 ha⟩
  have b1:(x.Kind==1)=false:=beq_eq_false_iff_ne.2 k1
  simp only[b1,Bool.false_eq_true,if_false] at he ⊢
  by_cases k2:x.Kind=2
  ·simp only[k2,beq_self_eq_true,if_true] at he ⊢
   refine⟨?_,fun r S hr ha=>RI.num hq.rg hr ha⟩
   obtain⟨c,t,e,hc,-⟩:=Quh x.N
   obtain⟨p1,-,-,-,-,p6⟩:=Qyu hc
   exact⟨c,t,e,p1,beq_eq_false_iff_ne.2 p6⟩
  have b2:(x.Kind==2)=false:=beq_eq_false_iff_ne.2 k2
  simp only[b2,Bool.false_eq_true,if_false] at he ⊢
  by_cases k3:x.Kind=3
  ·simp only[k3,beq_self_eq_true,if_true] at he ⊢
   cases (x.N==1)
   ·exact RTk.word (by decide)
   ·exact RTk.word (by decide)
  have b3:(x.Kind==3)=false:=beq_eq_false_iff_ne.2 k3
  simp only[b3,Bool.false_eq_true,if_false] at he ⊢
  by_cases k4:x.Kind=4
  ·simp only[k4,beq_self_eq_true,if_true,Bool.and_eq_true] at he ⊢
   exact RTk.word (Qi9 he.1)
  have b4:(x.Kind==4)=false:=beq_eq_false_iff_ne.2 k4
  simp only[b4,Bool.false_eq_true,if_false] at he ⊢
  by_cases k7:x.Kind=7
  ·have c5:(x.Kind==5)=false:=by rw[k7]; rfl
   have c6:(x.Kind==6)=false:=by rw[k7]; rfl
   rw[c5,c6] at he
   simp only[k7,beq_self_eq_true,if_true,Bool.false_eq_true,if_false,Bool.and_eq_true] at he ⊢
   have hw:=he.1
   have hall:x.Name.all letB=true:=by
    rw[wordP,Bool.and_eq_true,Bool.and_eq_true,Bool.and_eq_true] at hw
    exact hw.2.2.2
   obtain⟨z1,z2,z3⟩:=Qsn _ hall
   refine⟨⟨115,_,rfl,by rfl,by rfl⟩,fun r S _ ha=>?_⟩
   have hQ:=RI.quoted (t:=x.Name) (z3 _ (by omega)) z2 (RI.cls ha)
   rw[z1] at hQ
   have hS:=RI.word secretW (NoLet.cons (by rfl)) (RI.opn hQ)
   have e:([115,101,99,114,101,116,40,34]++(x.Name++[34,41]))++r=[115,101,99,114,101,116]++40::(34::x.Name++[34]++41::r):=by simp
   rw[e]
   exact hS
  have b7:(x.Kind==7)=false:=beq_eq_false_iff_ne.2 k7
  simp only[b7,Bool.false_eq_true,if_false] at he ⊢
  by_cases k5:x.Kind=5
  ·simp only[k5,beq_self_eq_true,if_true,Bool.and_eq_true] at he ⊢
   obtain⟨hw,hl,hex,-⟩:=he
   obtain⟨y,hy⟩:=List.length_eq_one_iff.1 (by simpa using hl:x.L.length=1)
   have hy1:nn y≤n:=by have:=Qfs (show y ∈ x.L by rw[hy]; simp); omega
   have hy2:allN okNd y:=Qhk (show y ∈ x.L by rw[hy]; simp) ho1
   have hy3:exprP y=true:=by rw[hy,exprsP,Bool.and_eq_true] at hex; exact hex.1
   have ty:=ih y hy1 hy2 hy3
   rw[hy,headW,headT]
   refine⟨Qyv ty.hd,fun r S hr ha=>?_⟩
   have:=ty.ok (46::(x.Name++r)) _ (NoLet.cons (by rfl)) (RI.dot (RI.word hw hr ha))
   simpa using this
  have b5:(x.Kind==5)=false:=beq_eq_false_iff_ne.2 k5
  simp only[b5,Bool.false_eq_true,if_false] at he ⊢
  by_cases k6:x.Kind=6
  ·simp only[k6,beq_self_eq_true,if_true,Bool.and_eq_true] at he ⊢
   obtain⟨hw,-,hex,-⟩:=he
   have hall:∀ (l:List Qaa),exprsP l=true→∀ y ∈ l,exprP y=true:=by
    intro l
    induction l with
    | nil=>intro _ y hy; cases hy
    | cons z l ihl =>
     intro hz y hy
     rw[exprsP,Bool.and_eq_true] at hz
     rcases List.mem_cons.1 hy with rfl | hy
     ·exact hz.1
     ·exact ihl hz.2 y hy
   have hT:∀ y ∈ x.L,RTk (exprW y) (exprT y):=fun y hy=>ih y (by have:=Qfs hy; omega) (Qhk hy ho1) (hall _ hex y hy)
   refine⟨Qyv (Qyv (Qwk (Qi9 hw))),fun r S hr ha=>?_⟩
   have:=RI.word (Qi9 hw) (NoLet.cons (by rfl)) (RI.opn (rtkArgs x.L hT false r S ha).1)
   simpa using this
  have b6:(x.Kind==6)=false:=beq_eq_false_iff_ne.2 k6
  simp only[b6,Bool.false_eq_true,if_false] at he
def wordsT (k:Int) (s:List UInt8):List Qab :=
 if k==9 then [] else if k==13 then [zt 4 wUse 0,zt 4 s 0] else if k==10 then [zt 4 wIf 0] else if k==11 then [zt 4 wEach 0,zt 4 s 0,zt 4 wIn 0] else [zt 4 wLet 0,zt 4 s 0,zt 11 [] 0]
noncomputable def actT (k:Int) (s:List UInt8) (a:List Qaa):List Qab:=zt 2 [] 0::(wordsT k s++(headT a++[zt 3 [] 0]))
def wordT (w:List UInt8):List Qab:=[zt 2 [] 0,zt 4 w 0,zt 3 [] 0]
mutual
noncomputable def stmtT:Qaa→List Qab
 | ⟨k,s,t,_,a,b,c⟩ =>
  if k==8 then [zt 1 t 0] else
  if k==9||k==13 then actT k s a else
  actT k s a++(blockT b++((if zl c then [] else wordT wElse++blockT c)++wordT wEnd))
noncomputable def blockT:List Qaa→List Qab
 | []=>[]
 | x::r=>stmtT x++blockT r
end
theorem Qwo (x:Qaa):stmtT x =
  if x.Kind==8 then [zt 1 x.Text 0] else
  if x.Kind==9||x.Kind==13 then actT x.Kind x.Name x.L else
  actT x.Kind x.Name x.L++(blockT x.Then++((if zl x.Else then [] else wordT wElse++blockT x.Else)++wordT wEnd)):=by cases x; rw[stmtT]
theorem raWords (k:Int) (s:List UInt8) (hk:k=9∨k=10∨nameP s=true) {v:List UInt8} {V:List Qab} (hv:RTk v V) {r:List UInt8} {S:List Qab} (h:RO r S):ROp (([123,123,32]++wordsW k s)++(v++[32,125,125])++r) (zt 2 [] 0::(wordsT k s++(V++(zt 3 [] 0::S)))):=by
 have hA:RI (v++32::125::125::r) (V++(zt 3 [] 0::S)):=hv.ok _ _ (NoLet.cons (by rfl)) (RI.blank (RI.close h))
 have mk:∀ (w:List UInt8) (W:List Qab),(∃ c t,w++(v++32::125::125::r)=c::t∧blB c=false∧(c==35)=false)→RI (w++(v++32::125::125::r)) W→ROp (([123,123,32]++w)++(v++[32,125,125])++r) (zt 2 [] 0::W):=fun w W ⟨c,t,e,h1,h2⟩ h3=>by
  refine⟨c,t,W,?_,h1,h2,rfl,by rw[← e]; exact h3⟩
  rw[← e]; simp
 have kw:∀ w0:List UInt8,wordP w0=true→∀ (w1:List UInt8) (W:List Qab),RI (32::(w1++(v++32::125::125::r))) W→∀ w,w=w0++32::w1→ROp (([123,123,32]++w)++(v++[32,125,125])++r) (zt 2 [] 0::zt 4 w0 0::W):=fun w0 h0 w1 W h1 w e=>by
  subst e
  refine mk _ _ ?_ ?_
  ·rw[List.append_assoc]; exact Qyv (Qwk h0)
  ·rw[List.append_assoc,List.cons_append]
   exact RI.word h0 (NoLet.cons (by rfl)) h1
 by_cases k9:k=9
 ·subst k9
  rw[show wordsW 9 s=[] from rfl,show wordsT 9 s=[] from rfl]
  refine mk [] _ ?_ hA
  rw[List.nil_append]; exact Qyv hv.hd
 by_cases k13:k=13
 ·subst k13
  have hs:nameP s=true:=by rcases hk with h | h | h; exact absurd h (by decide); exact absurd h (by decide); exact h
  rw[show wordsW 13 s=([117,115,101,32]++s)++[32] from rfl,show wordsT 13 s=[zt 4 wUse 0,zt 4 s 0] from rfl]
  refine kw [117,115,101] (by decide) (s++[32]) _ ?_ _ (by simp)
  have:=RI.blank (RI.word (Qi9 hs) (NoLet.cons (by rfl)) (RI.blank hA))
  simpa using this
 by_cases k10:k=10
 ·subst k10
  exact kw [105,102] (by decide) [] _ (RI.blank hA) _ (by simp[wordsW])
 have hs:nameP s=true:=by rcases hk with h | h | h; exact absurd h k9; exact absurd h k10; exact h
 by_cases k11:k=11
 ·subst k11
  rw[show wordsW 11 s=([101,97,99,104,32]++s)++[32,105,110,32] from rfl,show wordsT 11 s=[zt 4 wEach 0,zt 4 s 0,zt 4 wIn 0] from rfl]
  refine kw [101,97,99,104] (by decide) (s++[32,105,110,32]) _ ?_ _ (by simp)
  have:=RI.blank (RI.word (Qi9 hs) (NoLet.cons (by rfl)) (RI.blank (RI.word (show wordP [105,110]=true by decide) (NoLet.cons (by rfl)) (RI.blank hA))))
  simpa using this
 have b9:(k==9)=false:=beq_eq_false_iff_ne.2 k9
 have b13:(k==13)=false:=beq_eq_false_iff_ne.2 k13
 have b10:(k==10)=false:=beq_eq_false_iff_ne.2 k10
 have b11:(k==11)=false:=beq_eq_false_iff_ne.2 k11
 have eW:wordsW k s=([108,101,116,32]++s)++[32,61,32]:=by unfold wordsW; rw[b9,b13,b10,b11]; rfl
 have eT:wordsT k s=[zt 4 wLet 0,zt 4 s 0,zt 11 [] 0]:=by unfold wordsT; rw[b9,b13,b10,b11]; rfl
 rw[eW,eT]
 refine kw [108,101,116] (by decide) (s++[32,61,32]) _ ?_ _ (by simp)
 have:=RI.blank (RI.word (Qi9 hs) (NoLet.cons (by rfl)) (RI.blank (RI.eq (RI.blank hA))))
 simpa using this
theorem raPlain {w:List UInt8} (hw:wordP w=true) {r:List UInt8} {S:List Qab} (h:RO r S):ROp (([123,123,32]++w++[32,125,125])++r) (wordT w++S):=by
 have hA:=RI.word hw (NoLet.cons (r:=125::125::r) (c:=32) (by rfl)) (RI.blank (RI.close h))
 obtain⟨c,t,e,h1,h2⟩:=Qwk hw
 exact⟨c,t++(32::125::125::r),_,by rw[e]; simp,h1,h2,rfl,by rw[e] at hA ⊢; exact hA⟩
def RAfter (b:Bool) (r:List UInt8) (S:List Qab):Prop:=if b then ROp r S else(r=[]∧S=[])
theorem RAfter.ao {b:Bool} {r:List UInt8} {S:List Qab} (h:RAfter b r S):RO r S:=by
 cases b with
 | true=>exact ROp.ro0 h
 | false=>obtain⟨rfl,rfl⟩:=(show r=[]∧S=[] from h); exact RO.nil
theorem Q68 {t:List UInt8} (h:¬ t=[]):litZ t=[zt 1 t 0]:=if_neg h
theorem rtkBlock:∀ n (l:List Qaa) (b:Bool) (r:List UInt8) (S:List Qab),nns l≤n→allL okNd l→blockP l b=true→RAfter b r S→RO (blockW l++r) (blockT l++S)∧(l≠[]→litB l=false→ROp (blockW l++r) (blockT l++S)):=by
 intro n
 induction n with
 | zero =>
  intro l b r S h ho hb ha
  cases l with
  | nil=>rw[blockW,List.nil_append,blockT,List.nil_append]; exact⟨ha.ao,fun q=>absurd rfl q⟩
  | cons x l=>have:=Qgp x; rw[nns] at h; omega
 | succ n ih =>
  intro l b r S h ho hb ha
  cases l with
  | nil=>rw[blockW,List.nil_append,blockT,List.nil_append]; exact⟨ha.ao,fun q=>absurd rfl q⟩
  | cons x l =>
   have hp:=Qgp x
   rw[nns] at h
   rw[allL] at ho
   rw[blockP,Bool.and_eq_true,Bool.and_eq_true] at hb
   obtain⟨hs,hbad,hbl⟩:=hb
   obtain⟨i1,i2⟩:=ih l b r S (by omega) ho.2 hbl ha
   obtain⟨hq,ho1,ho2,ho3⟩:=(Qe5 okNd x).1 ho.1
   have hx:=nn_eq x
   rw[blockW,List.append_assoc,blockT,List.append_assoc]
   rw[Qnb] at hs
   rw[Qwm,Qwo]
   by_cases k8:x.Kind=8
   ·have hlit:litB (x::l)=true:=by rw[litB,k8]; rfl
    refine⟨?_,fun _ q=>by rw[hlit] at q; cases q⟩
    simp only[k8,beq_self_eq_true,if_true,Bool.and_eq_true] at hs ⊢
    have hne:¬ x.Text=[]:=by have:=hs.1; simpa using this
    have hB:hasB x.Text=false:=by have:=hs.2.1; simpa using this
    rw[badSt,k8] at hbad
    simp only[beq_self_eq_true,Bool.true_and,Bool.not_eq_true', Bool.or_eq_false_iff] at hbad
    obtain⟨hnl,hend⟩:=hbad
    rw[← Q68 hne]
    cases l with
    | cons y l =>
     refine ROp.ro x.Text (i2 (List.cons_ne_nil _ _) hnl) hB ?_
     simpa using hend
    | nil =>
     rw[blockW,List.nil_append,blockT,List.nil_append]
     cases b with
     | true=>exact ROp.ro x.Text ha hB (by simpa using hend)
     | false =>
      obtain⟨rfl,rfl⟩:=(show r=[]∧S=[] from ha)
      rw[List.append_nil,List.append_nil]
      exact RO.last _ hB
   ·have b8:(x.Kind==8)=false:=beq_eq_false_iff_ne.2 k8
    simp only[b8,Bool.false_eq_true,if_false] at hs ⊢
    have key:ROp ((if(x.Kind==9||x.Kind==13)=true then actW x.Kind x.Name x.L else actW x.Kind x.Name x.L++(blockW x.Then++((if zl x.Else=true then [] else [123,123,32,101,108,115,101,32,125,125]++blockW x.Else)++[123,123,32,101,110,100,32,125,125])))++(blockW l++r))
      ((if(x.Kind==9||x.Kind==13)=true then actT x.Kind x.Name x.L else actT x.Kind x.Name x.L++(blockT x.Then++((if zl x.Else=true then [] else wordT wElse++blockT x.Else)++wordT wEnd)))++(blockT l++S)):=by
     have one:(x.L.length==1&&exprsP x.L)=true→RTk (headW x.L) (headT x.L):=fun h1=>by
      rw[Bool.and_eq_true] at h1
      obtain⟨y,hy⟩:=List.length_eq_one_iff.1 (by simpa using h1.1:x.L.length=1)
      have hex:=h1.2
      rw[hy,exprsP,Bool.and_eq_true] at hex
      have hym:y ∈ x.L:=by rw[hy]; simp
      rw[hy,headW,headT]
      exact rtkExpr n y (by have:=Qfs hym; omega) (Qhk hym ho1) hex.1
     have hend:∀ R Q,RO R Q→ROp ([123,123,32,101,110,100,32,125,125]++R) (wordT wEnd++Q):=fun R Q hR=>raPlain (w:=[101,110,100]) (by decide) hR
     have helse:∀ R Q,RO R Q→ROp ([123,123,32,101,108,115,101,32,125,125]++R) (wordT wElse++Q):=fun R Q hR=>raPlain (w:=[101,108,115,101]) (by decide) hR
     have act:∀ k,(k=9∨k=10∨nameP x.Name=true)→RTk (headW x.L) (headT x.L)→∀ R Q,RO R Q→ROp (actW k x.Name x.L++R) (actT k x.Name x.L++Q):=fun k hk h1 R Q hR=>by
      have:=raWords k x.Name hk h1 hR
      unfold actW actT
      simpa only[List.append_assoc,List.cons_append,List.nil_append] using this
     by_cases k9:x.Kind=9
     ·simp only[k9,beq_self_eq_true,if_true,Bool.true_or,Bool.and_eq_true] at hs ⊢
      exact act 9 (.inl rfl) (one (by rw[Bool.and_eq_true]; exact hs.1)) _ _ i1
     have b9:(x.Kind==9)=false:=beq_eq_false_iff_ne.2 k9
     simp only[b9,Bool.false_eq_true,if_false,Bool.false_or] at hs ⊢
     have blk:∀ (hn:x.Kind=10∨nameP x.Name=true) (h1:RTk (headW x.L) (headT x.L)) (hT:blockP x.Then true=true) (hE:blockP x.Else true=true),ROp ((actW x.Kind x.Name x.L++(blockW x.Then++((if zl x.Else=true then [] else [123,123,32,101,108,115,101,32,125,125]++blockW x.Else)++[123,123,32,101,110,100,32,125,125])))++(blockW l++r))
       ((actT x.Kind x.Name x.L++(blockT x.Then++((if zl x.Else=true then [] else wordT wElse++blockT x.Else)++wordT wEnd)))++(blockT l++S)):=fun hn h1 hT hE=>by
      have eE:=hend _ _ i1
      have hR:ROp ((if zl x.Else=true then [] else [123,123,32,101,108,115,101,32,125,125]++blockW x.Else)++([123,123,32,101,110,100,32,125,125]++(blockW l++r))) ((if zl x.Else=true then [] else wordT wElse++blockT x.Else)++(wordT wEnd++(blockT l++S))):=by
       by_cases hz:zl x.Else=true
       ·rw[if_pos hz,List.nil_append,if_pos hz,List.nil_append]; exact eE
       ·rw[if_neg hz,List.append_assoc,if_neg hz,List.append_assoc]
        exact helse _ _ (ih x.Else true _ _ (by omega) ho3 hE eE).1
      have hT2:=(ih x.Then true _ _ (by omega) ho2 hT hR).1
      have:=act x.Kind (.inr hn) h1 _ _ hT2
      simpa only[List.append_assoc] using this
     by_cases k10:x.Kind=10
     ·have b13:(x.Kind==13)=false:=by rw[k10]; rfl
      rw[b13]
      simp only[k10,beq_self_eq_true,if_true,Bool.and_eq_true,Bool.false_eq_true,if_false] at hs
      simp only[Bool.false_eq_true,if_false]
      exact blk (.inl k10) (one (by rw[Bool.and_eq_true]; exact hs.1)) hs.2.1.1 hs.2.1.2
     have b10:(x.Kind==10)=false:=beq_eq_false_iff_ne.2 k10
     simp only[b10,Bool.false_eq_true,if_false] at hs
     by_cases k11:(x.Kind==11||x.Kind==12)=true
     ·have b13:(x.Kind==13)=false:=by
       rw[beq_eq_false_iff_ne]; intro q; rw[q] at k11; exact absurd k11 (by decide)
      rw[b13]
      rw[if_pos k11] at hs
      simp only[Bool.and_eq_true] at hs
      simp only[Bool.false_eq_true,if_false]
      have hz:=hs.2.2.2.2.2
      exact blk (.inr hs.1) (one (by rw[Bool.and_eq_true]; exact hs.2.1)) hs.2.2.1 (by rw[Qco hz]; exact Q4d _)
     rw[if_neg k11] at hs
     by_cases k13:x.Kind=13
     ·simp only[k13,beq_self_eq_true,if_true,Bool.and_eq_true] at hs ⊢
      exact act 13 (.inr (.inr hs.1)) (one (by rw[Bool.and_eq_true]; exact hs.2.1)) _ _ i1
     ·have b13:(x.Kind==13)=false:=beq_eq_false_iff_ne.2 k13
      rw[b13] at hs; simp at hs
    exact⟨key.ro0,fun _ _=>key⟩
theorem Qyw (l:List Qaa) (ho:allL okNd l) (hb:blockP l false=true) (h6:(blockW l).length≤65536):∃ L,tokens (blockW l)=(L,0,0)∧zs L=blockT l:=by
 have h:=(rtkBlock (nns l) l false [] [] (Nat.le_refl _) ho hb ⟨rfl,rfl⟩).1
 rw[List.append_nil,List.append_nil] at h
 obtain⟨L,h1,h2⟩:=h (blockW l) 0 ((blockW l).length+1) [] (by rw[List.drop_zero]) (by omega) (by omega)
 refine⟨L,?_,h2⟩
 rw[tokens,if_neg (by omega),h1,List.nil_append]
end Go.Proofs.YtagokkpnfceidaaDoor
end

section
namespace Go.Proofs.YtagokkpnfceidaaDoor
open Go.RowKit
set_option linter.unusedSimpArgs false
set_option linter.unusedVariables false
theorem Q4z {s:List UInt8} (h:nameP s=true):wordP s=true∧∀ w ∈ kws,¬ s=w:=by
 rw[nameP,Bool.and_eq_true] at h
 refine⟨h.2,fun w hw e=>?_⟩
 have h1:=h.1
 rw[Bool.not_eq_true', List.any_eq_false] at h1
 exact h1 w hw (by rw[e]; simp)
theorem Qc5 (w s:List UInt8) (n:Int) (r:List Qab):isW w (zt 4 s n::r)=(s==w):=rfl
theorem Qwp {s w:List UInt8} (h:nameP s=true) (hw:w ∈ kws) (r:List Qab):isW w (zt 4 s 0::r)=false:=by
 rw[Qc5]
 exact beq_eq_false_iff_ne.2 ((Q4z h).2 w hw)
theorem Qo7 {s:List UInt8} (h:nameP s=true) (r:List Qab):nameR (zt 4 s 0::r) = .ok s r:=by
 unfold nameR
 rw[if_pos ⟨rfl,h⟩]; rfl
theorem Qe8 (k:Int) (t:List UInt8) (n:Int) (r:List Qab):want k (zt k t n::r) = .ok (zt k t n) r:=by
 unfold want
 rw[if_pos (show kd (zt k t n::r)=k from rfl)]; rfl
def Beg (T:List Qab):Prop:=∃ t r,T=t::r∧(t.Kind=4∨t.Kind=5∨t.Kind=6)∧∀ w ∈ [wIf,wElse,wEnd,wEach,wIn,wLet,wUse],¬ (t.Kind=4∧t.Text=w)
theorem Beg.app {T S:List Qab} (h:Beg T):Beg (T++S):=by
 obtain⟨t,r,rfl,h⟩:=h
 exact⟨t,r++S,rfl,h⟩
theorem Beg.kd {T:List Qab} (h:Beg T):kd T=4∨kd T=5∨kd T=6:=by
 obtain⟨t,r,rfl,h,-⟩:=h
 exact h
theorem Beg.noW {T:List Qab} (h:Beg T) {w:List UInt8} (hw:w ∈ [wIf,wElse,wEnd,wEach,wIn,wLet,wUse]):isW w T=false:=by
 obtain⟨t,r,rfl,-,h⟩:=h
 have:=h w hw
 unfold isW
 rw[Q64,Q4g]
 by_cases h4:t.Kind=4
 ·have h5:(t.Text==w)=false:=beq_eq_false_iff_ne.2 fun e=>this ⟨h4,e⟩
  rw[h5,Bool.and_false]
 ·rw[beq_eq_false_iff_ne.2 h4,Bool.false_and]
theorem Q1v {s:List UInt8} (h:nameP s=true) (r:List Qab):Beg (zt 4 s 0::r):=by
 refine⟨_,_,rfl,.inl rfl,fun w hw q=>(Q4z h).2 w ?_ q.2⟩
 simp only[List.mem_cons,List.not_mem_nil,or_false] at hw
 rcases hw with rfl | rfl | rfl | rfl | rfl | rfl | rfl<;>simp[kws]
theorem Qwq:∀ n (x:Qaa),nn x≤n→exprP x=true→Beg (exprT x)∧nn x≤(exprT x).length:=by
 intro n
 induction n with
 | zero=>intro x h; have:=Qgp x; omega
 | succ n ih =>
  intro x h he
  rw[nn_eq] at h ⊢
  rw[Qwn]
  rw[Qo2] at he
  have zn:∀ {l:List Qaa},zl l=true→nns l=0:=fun h=>by rw[Qco h]; rfl
  by_cases k1:x.Kind=1
  ·simp only[k1,beq_self_eq_true,if_true,Bool.and_eq_true] at he ⊢
   obtain⟨-,-,-,h1,h2,h3⟩:=he
   exact⟨⟨_,_,rfl,.inr (.inl rfl),fun w _ q=>absurd q.1 (show ¬ (5:Int)=4 by decide)⟩,by rw[zn h1,zn h2,zn h3]; simp⟩
  have b1:(x.Kind==1)=false:=beq_eq_false_iff_ne.2 k1
  simp only[b1,Bool.false_eq_true,if_false] at he ⊢
  by_cases k2:x.Kind=2
  ·simp only[k2,beq_self_eq_true,if_true,Bool.and_eq_true] at he ⊢
   obtain⟨-,-,h1,h2,h3⟩:=he
   exact⟨⟨_,_,rfl,.inr (.inr rfl),fun w _ q=>absurd q.1 (show ¬ (6:Int)=4 by decide)⟩,by rw[zn h1,zn h2,zn h3]; simp⟩
  have b2:(x.Kind==2)=false:=beq_eq_false_iff_ne.2 k2
  simp only[b2,Bool.false_eq_true,if_false] at he ⊢
  by_cases k3:x.Kind=3
  ·simp only[k3,beq_self_eq_true,if_true,Bool.and_eq_true] at he ⊢
   obtain⟨-,-,-,h1,h2,h3⟩:=he
   refine⟨⟨_,_,rfl,.inl rfl,fun w hw q=>?_⟩,by rw[zn h1,zn h2,zn h3]; simp⟩
   have q2:=q.2
   revert q2
   simp only[List.mem_cons,List.not_mem_nil,or_false] at hw
   cases (x.N==1)<;>rcases hw with rfl | rfl | rfl | rfl | rfl | rfl | rfl<;>decide
  have b3:(x.Kind==3)=false:=beq_eq_false_iff_ne.2 k3
  simp only[b3,Bool.false_eq_true,if_false] at he ⊢
  by_cases k4:x.Kind=4
  ·simp only[k4,beq_self_eq_true,if_true,Bool.and_eq_true] at he ⊢
   obtain⟨h0,-,-,h1,h2,h3⟩:=he
   exact⟨Q1v h0 [],by rw[zn h1,zn h2,zn h3]; simp⟩
  have b4:(x.Kind==4)=false:=beq_eq_false_iff_ne.2 k4
  simp only[b4,Bool.false_eq_true,if_false] at he ⊢
  by_cases k7:x.Kind=7
  ·have c5:(x.Kind==5)=false:=by rw[k7]; rfl
   have c6:(x.Kind==6)=false:=by rw[k7]; rfl
   rw[c5,c6] at he
   simp only[k7,beq_self_eq_true,if_true,Bool.false_eq_true,if_false,Bool.and_eq_true] at he ⊢
   obtain⟨-,-,-,h1,h2,h3⟩:=he
   refine⟨⟨_,_,rfl,.inl rfl,fun w hw q=>?_⟩,by rw[zn h1,zn h2,zn h3]; simp⟩
   have q2:=q.2
   revert q2
   simp only[List.mem_cons,List.not_mem_nil,or_false] at hw
   rcases hw with rfl | rfl | rfl | rfl | rfl | rfl | rfl<;>decide
  have b7:(x.Kind==7)=false:=beq_eq_false_iff_ne.2 k7
  simp only[b7,Bool.false_eq_true,if_false] at he ⊢
  by_cases k5:x.Kind=5
  ·simp only[k5,beq_self_eq_true,if_true,Bool.and_eq_true] at he ⊢
   obtain⟨hw,hl,hex,-,-,h2,h3⟩:=he
   obtain⟨y,hy⟩:=List.length_eq_one_iff.1 (by simpa using hl:x.L.length=1)
   have hy3:exprP y=true:=by rw[hy,exprsP,Bool.and_eq_true] at hex; exact hex.1
   have e1:nns x.L=nn y:=by rw[hy]; simp[nns]
   obtain⟨i1,i2⟩:=ih y (by omega) hy3
   rw[hy,headT,← hy,e1,zn h2,zn h3]
   exact⟨i1.app,by simp; omega⟩
  have b5:(x.Kind==5)=false:=beq_eq_false_iff_ne.2 k5
  simp only[b5,Bool.false_eq_true,if_false] at he ⊢
  by_cases k6:x.Kind=6
  ·simp only[k6,beq_self_eq_true,if_true,Bool.and_eq_true] at he ⊢
   obtain⟨hw,-,hex,-,-,h2,h3⟩:=he
   have hall:∀ (l:List Qaa) (b:Bool),nns l≤n→exprsP l=true→nns l≤(argsT l b).length:=by
    intro l
    induction l with
    | nil=>intro b _ _; simp[nns]
    | cons z l ihl =>
     intro b hz hp
     rw[nns] at hz ⊢
     rw[exprsP,Bool.and_eq_true] at hp
     have:=(ih z (by omega) hp.1).2
     have:=ihl true (by omega) hp.2
     rw[argsT,List.length_append,List.length_append]; omega
   have:=hall x.L false (by omega) hex
   rw[zn h2,zn h3]
   exact⟨Q1v hw _,by simp; omega⟩
  have b6:(x.Kind==6)=false:=beq_eq_false_iff_ne.2 k6
  simp only[b6,Bool.false_eq_true,if_false] at he
theorem Q40 (n:Nat) (x:Qaa) {l:List Qab} (h:kd l≠7):dotsR n x l = .ok x l:=by
 cases n with
 | zero=>rfl
 | succ n=>rw[dotsR,if_neg h]
def Takes (f:Nat) (x:Qaa):Prop:=∀ T,kd T≠8→∃ y l1 d,firstR (exprR f) (exprT x++T) = .ok y l1∧d+T.length≤l1.length∧∀ m,dotsR (m+d) y l1=dotsR m x T
theorem Takes.expr {f:Nat} {x:Qaa} (h:Takes f x) {T:List Qab} (h7:kd T≠7) (h8:kd T≠8):exprR (f+1) (exprT x++T) = .ok x T:=by
 obtain⟨y,l1,d,h1,h2,h3⟩:=h T h8
 rw[exprR,h1,Rs.bind]
 obtain⟨m,hm⟩:∃ m,l1.length=m+d:=⟨l1.length-d,by omega⟩
 rw[hm,h3,Q40 m x h7]
theorem Q41 {f:Nat} (a:List Qaa) (hl:a.length≤3) (ha:∀ x ∈ a,Beg (exprT x)∧∀ T,kd T≠7→kd T≠8→exprR f (exprT x++T) = .ok x T) (T:List Qab):argsR (exprR f) (argsT a false++(zt 9 [] 0::T)) = .ok a T:=by
 have c9:∀ r,kd (zt 9 [] 0::r)=9:=fun _=>rfl
 have c10:∀ r,kd (zt 10 [] 0::r)=10:=fun _=>rfl
 have n9:∀ (x:Qaa),Beg (exprT x)→∀ r,kd (exprT x++r)≠9:=fun x hb r e=>by
  have:=(hb.app (S:=r)).kd
  omega
 match a,hl,ha with
 | [],_,_ =>
  rw[argsT,List.nil_append,argsR,if_pos (c9 _)]; rfl
 | [x],_,ha =>
  obtain⟨b,t⟩:=ha x (by simp)
  simp only[argsT,Bool.false_eq_true,if_false,List.nil_append,List.append_nil]
  rw[argsR,if_neg (n9 x b _),t _ (by rw[c9]; decide) (by rw[c9]; decide),Rs.bind,if_neg (by rw[c9]; decide),Qe8]
  rfl
 | [x,y],_,ha =>
  obtain⟨b,t⟩:=ha x (by simp)
  obtain⟨b2,t2⟩:=ha y (by simp)
  simp only[argsT,Bool.false_eq_true,if_false,if_true,List.nil_append,List.append_nil,List.append_assoc,List.cons_append]
  rw[argsR,if_neg (n9 x b _),t _ (by rw[c10]; decide) (by rw[c10]; decide),Rs.bind,if_pos (c10 _),List.tail_cons,t2 _ (by rw[c9]; decide) (by rw[c9]; decide),Rs.bind,if_neg (by rw[c9]; decide),Qe8]
  rfl
 | [x,y,z],_,ha =>
  obtain⟨b,t⟩:=ha x (by simp)
  obtain⟨b2,t2⟩:=ha y (by simp)
  obtain⟨b3,t3⟩:=ha z (by simp)
  simp only[argsT,Bool.false_eq_true,if_false,if_true,List.nil_append,List.append_nil,List.append_assoc,List.cons_append]
  rw[argsR,if_neg (n9 x b _),t _ (by rw[c10]; decide) (by rw[c10]; decide),Rs.bind,if_pos (c10 _),List.tail_cons,t2 _ (by rw[c10]; decide) (by rw[c10]; decide),Rs.bind,if_pos (c10 _),List.tail_cons,t3 _ (by rw[c9]; decide) (by rw[c9]; decide),Rs.bind,Qe8]
  rfl
theorem Q2x:∀ n f (x:Qaa),nn x≤n→n≤f+1→exprP x=true→Takes f x:=by
 intro n
 induction n with
 | zero=>intro f x h; have:=Qgp x; omega
 | succ n ih =>
  intro f x h hf he T h8
  rw[nn_eq] at h
  rw[Qwn]
  rw[Qo2] at he
  have nl:∀ {l:List UInt8},(l==[])=true→l=[]:=fun h=>by simpa using h
  have ni:∀ {n:Int},(n==0)=true→n=0:=fun h=>by simpa using h
  obtain⟨k,s,t,v,a,b,c⟩:=x
  simp only at h he ⊢
  by_cases k1:k=1
  ·subst k1
   simp only[beq_self_eq_true,if_true,Bool.and_eq_true] at he ⊢
   obtain⟨-,e1,e2,h1,h2,h3⟩:=he
   rw[nl e1,ni e2,Qco h1,Qco h2,Qco h3]
   refine⟨_,T,0,?_,by omega,fun m=>rfl⟩
   rw[firstR,if_pos (by rfl)]; rfl
  have b1:(k==1)=false:=beq_eq_false_iff_ne.2 k1
  simp only[b1,Bool.false_eq_true,if_false] at he ⊢
  by_cases k2:k=2
  ·subst k2
   simp only[beq_self_eq_true,if_true,Bool.and_eq_true] at he ⊢
   obtain⟨e1,e2,h1,h2,h3⟩:=he
   rw[nl e1,nl e2,Qco h1,Qco h2,Qco h3]
   refine⟨_,T,0,?_,by omega,fun m=>rfl⟩
   rw[firstR,if_neg (by simp),if_pos (by rfl)]; rfl
  have b2:(k==2)=false:=beq_eq_false_iff_ne.2 k2
  simp only[b2,Bool.false_eq_true,if_false] at he ⊢
  by_cases k3:k=3
  ·subst k3
   simp only[beq_self_eq_true,if_true,Bool.and_eq_true] at he ⊢
   obtain⟨e0,e1,e2,h1,h2,h3⟩:=he
   rw[nl e1,nl e2,Qco h1,Qco h2,Qco h3]
   refine⟨_,T,0,?_,by omega,fun m=>rfl⟩
   by_cases hv:v=1
   ·subst hv
    rw[firstR,if_neg (by simp),if_neg (by simp),if_pos (by rfl)]; rfl
   ·have e:(v==1)=false:=beq_eq_false_iff_ne.2 hv
    rw[e,Bool.or_false] at e0
    rw[ni e0]
    show firstR (exprR f) (zt 4 wFalse 0::T)=_
    rw[firstR,if_neg (by simp),if_neg (by simp),if_neg (by rw[Qc5]; decide),if_pos (by rfl)]; rfl
  have b3:(k==3)=false:=beq_eq_false_iff_ne.2 k3
  simp only[b3,Bool.false_eq_true,if_false] at he ⊢
  have nW:∀ r,nameP s=true→firstR (exprR f) (zt 4 s 0::r)=(nameR (zt 4 s 0::r)).bind fun s l1=>if kd l1=8 then(argsR (exprR f) l1.tail).bind fun xs l2 =>.ok ⟨6,s,[],0,xs,[],[]⟩ l2 else .ok ⟨4,s,[],0,[],[],[]⟩ l1:=fun r hs=>by
   rw[firstR,if_neg (by simp),if_neg (by simp),if_neg (by rw[Qwp hs (by simp[kws])]; decide),if_neg (by rw[Qwp hs (by simp[kws])]; decide),if_neg (by rw[Qwp hs (by simp[kws])]; decide)]
  by_cases k4:k=4
  ·subst k4
   simp only[beq_self_eq_true,if_true,Bool.and_eq_true] at he ⊢
   obtain⟨e0,e1,e2,h1,h2,h3⟩:=he
   rw[nl e1,ni e2,Qco h1,Qco h2,Qco h3]
   refine⟨_,T,0,?_,by omega,fun m=>rfl⟩
   rw[List.cons_append,List.nil_append,nW _ e0,Qo7 e0,Rs.bind,if_neg h8]
  have b4:(k==4)=false:=beq_eq_false_iff_ne.2 k4
  simp only[b4,Bool.false_eq_true,if_false] at he ⊢
  by_cases k7:k=7
  ·subst k7
   simp only[beq_self_eq_true,if_true,Bool.false_eq_true,if_false,Bool.and_eq_true,show((7:Int)==5)=false from rfl,show((7:Int)==6)=false from rfl] at he ⊢
   obtain⟨e0,e1,e2,h1,h2,h3⟩:=he
   rw[nl e1,ni e2,Qco h1,Qco h2,Qco h3]
   refine⟨_,T,0,?_,by omega,fun m=>rfl⟩
   have:firstR (exprR f) (zt 4 wSecret 0::zt 8 [] 0::zt 5 s 0::zt 9 [] 0::T)=secretR (zt 8 [] 0::zt 5 s 0::zt 9 [] 0::T):=by
    rw[firstR,if_neg (by simp),if_neg (by simp),if_neg (by rw[Qc5]; decide),if_neg (by rw[Qc5]; decide),if_pos (by rw[Qc5]; decide)]; rfl
   show firstR (exprR f) (zt 4 wSecret 0::zt 8 [] 0::zt 5 s 0::zt 9 [] 0::T)=_
   rw[this,secretR,Qe8,Rs.bind,if_pos ⟨rfl,e0⟩,List.tail_cons,Qe8]; rfl
  have b7:(k==7)=false:=beq_eq_false_iff_ne.2 k7
  simp only[b7,Bool.false_eq_true,if_false] at he ⊢
  by_cases k5:k=5
  ·subst k5
   simp only[beq_self_eq_true,if_true,Bool.and_eq_true] at he ⊢
   obtain⟨hw,hl,hex,e1,e2,h2,h3⟩:=he
   obtain⟨y,rfl⟩:=List.length_eq_one_iff.1 (by simpa using hl:a.length=1)
   have hy3:exprP y=true:=by rw[exprsP,Bool.and_eq_true] at hex; exact hex.1
   have hy1:nn y≤n:=by simp only[nns] at h; omega
   rw[nl e1,ni e2,Qco h2,Qco h3]
   obtain⟨z,l1,d,g1,g2,g3⟩:=ih f y hy1 (by omega) hy3 (zt 7 [] 0::zt 4 s 0::T) (show(7:Int)≠8 by decide)
   rw[headT,List.append_assoc]
   refine⟨z,l1,d+1,g1,?_,fun m=>?_⟩
   ·simp only[List.length_cons] at g2; omega
   ·rw[show m+(d+1)=(m+1)+d by omega,g3,dotsR,if_pos (by rfl),List.tail_cons,Qe8]; rfl
  have b5:(k==5)=false:=beq_eq_false_iff_ne.2 k5
  simp only[b5,Bool.false_eq_true,if_false] at he ⊢
  by_cases k6:k=6
  ·subst k6
   simp only[beq_self_eq_true,if_true,Bool.and_eq_true] at he ⊢
   obtain⟨hw,hl,hex,e1,e2,h2,h3⟩:=he
   rw[nl e1,ni e2,Qco h2,Qco h3]
   have hall:∀ (l:List Qaa),exprsP l=true→∀ y ∈ l,exprP y=true:=by
    intro l
    induction l with
    | nil=>intro _ y hy; cases hy
    | cons z l ihl =>
     intro hz y hy
     rw[exprsP,Bool.and_eq_true] at hz
     rcases List.mem_cons.1 hy with rfl | hy
     ·exact hz.1
     ·exact ihl hz.2 y hy
   have hT:=Q41 (f:=f) a (of_decide_eq_true hl) (fun y hy=>by
    have hy1:=Qfs hy
    have hp:=hall _ hex y hy
    refine⟨(Qwq _ y (Nat.le_refl _) hp).1,fun S s7 s8=>?_⟩
    obtain⟨g,rfl⟩:∃ g,f=g+1:=⟨f-1,by have:=Qgp y; omega⟩
    exact(ih g y (by omega) (by omega) hp).expr s7 s8) T
   refine⟨_,T,0,?_,by omega,fun m=>rfl⟩
   rw[show(zt 4 s 0::zt 8 [] 0::(argsT a false++[zt 9 [] 0]))++T=zt 4 s 0::zt 8 [] 0::(argsT a false++(zt 9 [] 0::T)) by simp,nW _ hw,Qo7 hw,Rs.bind,if_pos (by rfl),List.tail_cons,hT]
   rfl
  have b6:(k==6)=false:=beq_eq_false_iff_ne.2 k6
  simp only[b6,Bool.false_eq_true,if_false] at he
theorem Q69 {x:Qaa} (he:exprP x=true) {T:List Qab} (h7:kd T≠7) (h8:kd T≠8):ex20 (exprT x++T) = .ok x T:=by
 have:=(Qwq _ x (Nat.le_refl _) he).2
 unfold ex20
 exact(Q2x (nn x) _ x (Nat.le_refl _) (by rw[List.length_append]; omega) he).expr h7 h8
theorem Qmv {x:Qaa} (he:exprP x=true) (T:List Qab):closedR (exprT x++(zt 3 [] 0::T)) = .ok x T:=by
 have e:=Q69 he (T:=zt 3 [] 0::T) (show(3:Int)≠7 by decide) (show(3:Int)≠8 by decide)
 rw[closedR,e,Rs.bind,Qe8]; rfl
theorem Q1w (w:List UInt8) (T:List Qab):wantW w (zt 4 w 0::T) = .ok () T:=by
 rw[wantW,if_pos (by rw[Qc5]; simp)]; rfl
theorem Qso (w:List UInt8) (T:List Qab):endW w (wordT w++T) = .ok () T:=by
 show endW w (zt 2 [] 0::zt 4 w 0::zt 3 [] 0::T)=_
 rw[endW,Qe8,Rs.bind,Q1w,Rs.bind,Qe8]; rfl
theorem Qf2 (w v:List UInt8) (T:List Qab):ahead w (wordT v++T)=(v==w):=rfl
theorem Q42 {f:Nat} {i o:Bool} {out:List Qaa} {S:List Qab} (hf:0<f) (hs:((i&&ahead wEnd S)||(o&&ahead wElse S))=true):loopR f i o out S = .ok out S:=by
 obtain⟨g,rfl⟩:∃ g,f=g+1:=⟨f-1,by omega⟩
 have h2:kd S=2:=by
  have:ahead wEnd S=true∨ahead wElse S=true:=by
   cases h1:ahead wEnd S<;>cases h2:ahead wElse S<;>rw[h1,h2] at hs<;>simp at hs ⊢
  rcases this with h | h<;>(unfold ahead at h; rw[Bool.and_eq_true] at h; simpa using h.1)
 rw[loopR,if_neg (kd_ne (by decide) h2),if_neg (by rw[h2]; decide),if_pos hs]
theorem Q2y {out:List Qaa} {t:List UInt8} (h:litB out.reverse=false):addLit out t=out++[⟨8,[],t,0,[],[],[]⟩]:=by
 unfold addLit
 cases hx:out.getLast? with
 | none=>rfl
 | some y =>
  simp only
  rw[if_neg]
  intro e
  have:out.reverse.head? = some y:=by rw[List.head?_reverse]; exact hx
  cases hr:out.reverse with
  | nil=>rw[hr] at this; cases this
  | cons z q =>
   rw[hr] at this h
   simp at this; subst this
   rw[litB,e] at h; cases h
def ActOk (f:Nat) (x:Qaa):Prop:=∃ A,stmtT x=zt 2 [] 0::A∧∀ S,(A++S).length<f→isW wEnd (A++S)=false∧isW wElse (A++S)=false∧kd (A++S)≠3∧actR (fun i o l=>loopR f i o [] l) (A++S) = .ok x S
def BlkOk (n:Nat):Prop:=∀ (l:List Qaa) (b:Bool) (f:Nat) (i o:Bool) (out:List Qaa) (T:List Qab),nns l≤n→blockP l b=true→(litB l=true→litB out.reverse=false)→(blockT l++T).length<f→∃ f', T.length<f' ∧ loopR f i o out (blockT l++T)=loopR f' i o (out++l) T
theorem BlkOk.stop {n:Nat} (h:BlkOk n) {l:List Qaa} {f:Nat} {i o:Bool} {T:List Qab} (hl:nns l≤n) (hb:blockP l true=true) (hf:(blockT l++T).length<f) (hs:((i&&ahead wEnd T)||(o&&ahead wElse T))=true):loopR f i o [] (blockT l++T) = .ok l T:=by
 obtain⟨f', h1,h2⟩:=h l true f i o [] T hl hb (fun _=>rfl) hf
 rw[h2,List.nil_append]
 exact Q42 (by omega) hs
theorem Q7i {n:Nat} (ih:BlkOk n) (f:Nat) (x:Qaa) (hx:nn x≤n+1) (hs:stmtP x=true) (h8:x.Kind≠8):ActOk f x:=by
 rw[nn_eq] at hx
 rw[Qnb] at hs
 have b8:(x.Kind==8)=false:=beq_eq_false_iff_ne.2 h8
 unfold ActOk
 rw[Qwo]
 obtain⟨k,s,t,v,a,b,c⟩:=x
 simp only[b8,Bool.false_eq_true,if_false] at hx hs h8 b8 ⊢
 have nl:∀ {l:List UInt8},(l==[])=true→l=[]:=fun h=>by simpa using h
 have ni:∀ {n:Int},(n==0)=true→n=0:=fun h=>by simpa using h
 have one:(a.length==1&&exprsP a)=true→∃ y,a=[y]∧exprP y=true:=fun h1=>by
  rw[Bool.and_eq_true] at h1
  obtain⟨y,hy⟩:=List.length_eq_one_iff.1 (by simpa using h1.1:a.length=1)
  have hex:=h1.2
  rw[hy,exprsP,Bool.and_eq_true] at hex
  exact⟨y,hy,hex.1⟩
 have nW:∀ (w v:List UInt8) (r:List Qab),(v==w)=false→isW w (zt 4 v 0::r)=false:=fun w v r h=>by rw[Qc5]; exact h
 by_cases k9:k=9
 ·subst k9
  simp only[beq_self_eq_true,if_true,Bool.true_or,Bool.and_eq_true] at hs ⊢
  obtain⟨h1,e1,e2,e3,h2,h3⟩:=hs
  obtain⟨y,rfl,hy⟩:=one (by rw[Bool.and_eq_true]; exact h1)
  rw[nl e1,nl e2,ni e3,Qco h2,Qco h3]
  have hB:=(Qwq _ y (Nat.le_refl _) hy).1
  refine⟨exprT y++[zt 3 [] 0],rfl,fun S hf=>?_⟩
  rw[List.append_assoc]
  have hB' : Beg (exprT y++([zt 3 [] 0]++S)):=hB.app
  have hk:=hB'.kd
  refine⟨hB'.noW (by simp),hB'.noW (by simp),by omega,?_⟩
  rw[actR,hB'.noW (by simp),hB'.noW (by simp),hB'.noW (by simp),hB'.noW (by simp)]
  simp only[Bool.false_eq_true,if_false]
  rw[List.cons_append,List.nil_append,Qmv hy]; rfl
 have b9:(k==9)=false:=beq_eq_false_iff_ne.2 k9
 simp only[b9,Bool.false_eq_true,if_false,Bool.false_or] at hs ⊢
 by_cases k13:k=13
 ·subst k13
  simp only[show((13:Int)==10)=false from rfl,show((13:Int)==11)=false from rfl,show((13:Int)==12)=false from rfl,Bool.false_or,beq_self_eq_true,if_true,Bool.false_eq_true,if_false,Bool.and_eq_true] at hs ⊢
  obtain⟨hn,h1,e2,e3,h2,h3⟩:=hs
  obtain⟨y,rfl,hy⟩:=one (by rw[Bool.and_eq_true]; exact h1)
  rw[nl e2,ni e3,Qco h2,Qco h3]
  refine⟨zt 4 wUse 0::zt 4 s 0::(exprT y++[zt 3 [] 0]),rfl,fun S hf=>⟨rfl,rfl,by show(4:Int)≠3; decide,?_⟩⟩
  have e:(zt 4 wUse 0::zt 4 s 0::(exprT y++[zt 3 [] 0]))++S=zt 4 wUse 0::zt 4 s 0::(exprT y++(zt 3 [] 0::S)):=by simp
  rw[e,actR,if_neg (by rw[Qc5]; decide),if_neg (by rw[Qc5]; decide),if_neg (by rw[Qc5]; decide),if_pos (by rw[Qc5]; decide),List.tail_cons,Qo7 hn,Rs.bind,Qmv hy]; rfl
 have b13:(k==13)=false:=beq_eq_false_iff_ne.2 k13
 simp only[b13,Bool.false_eq_true,if_false] at hs ⊢
 by_cases k10:k=10
 ·subst k10
  simp only[beq_self_eq_true,if_true,Bool.and_eq_true] at hs
  obtain⟨h1,⟨h2,h3⟩,e1,e2,e3⟩:=hs
  obtain⟨y,rfl,hy⟩:=one (by rw[Bool.and_eq_true]; exact h1)
  rw[nl e1,nl e2,ni e3]
  refine⟨zt 4 wIf 0::(exprT y++(zt 3 [] 0::(blockT b++((if zl c then [] else wordT wElse++blockT c)++wordT wEnd)))),?_,fun S hf=>?_⟩
  ·show zt 2 [] 0::([zt 4 wIf 0]++(exprT y++[zt 3 [] 0]))++_=_
   simp
  have e:(zt 4 wIf 0::(exprT y++(zt 3 [] 0::(blockT b++((if zl c then [] else wordT wElse++blockT c)++wordT wEnd)))))++S=zt 4 wIf 0::(exprT y++(zt 3 [] 0::(blockT b++((if zl c then [] else wordT wElse++blockT c)++(wordT wEnd++S))))):=by simp
  rw[e] at hf ⊢
  refine⟨rfl,rfl,by show(4:Int)≠3; decide,?_⟩
  simp only[List.length_cons,List.length_append] at hf
  rw[actR,if_pos (by rw[Qc5]; decide),List.tail_cons,Qmv hy,Rs.bind]
  by_cases hz:zl c=true
  ·rw[if_pos hz] at hf ⊢
   rw[Qco hz]
   rw[List.nil_append,ih.stop (by omega) h2 (by simp only[List.length_append]; omega) (by rw[Qf2]; rfl),Rs.bind,if_neg (by rw[Qf2]; decide),Qso]; rfl
  ·rw[if_neg hz] at hf ⊢
   simp only[List.length_append] at hf
   rw[List.append_assoc,ih.stop (by omega) h2 (by simp only[List.length_append]; omega) (by rw[Qf2,Qf2]; rfl),Rs.bind,if_pos (by rw[Qf2]; decide),Qso,Rs.bind,ih.stop (by omega) h3 (by simp only[List.length_append]; omega) (by rw[Qf2]; rfl),Rs.bind,Qso]; rfl
 have b10:(k==10)=false:=beq_eq_false_iff_ne.2 k10
 simp only[b10,Bool.false_eq_true,if_false] at hs
 by_cases k11:k=11
 ·subst k11
  simp only[beq_self_eq_true,if_true,Bool.true_or,Bool.and_eq_true] at hs
  obtain⟨hn,h1,h2,e2,e3,h3⟩:=hs
  obtain⟨y,rfl,hy⟩:=one (by rw[Bool.and_eq_true]; exact h1)
  rw[nl e2,ni e3,if_pos h3,Qco h3]
  refine⟨zt 4 wEach 0::zt 4 s 0::zt 4 wIn 0::(exprT y++(zt 3 [] 0::(blockT b++wordT wEnd))),?_,fun S hf=>?_⟩
  ·show zt 2 [] 0::([zt 4 wEach 0,zt 4 s 0,zt 4 wIn 0]++(exprT y++[zt 3 [] 0]))++_=_
   simp
  have e:(zt 4 wEach 0::zt 4 s 0::zt 4 wIn 0::(exprT y++(zt 3 [] 0::(blockT b++wordT wEnd))))++S=zt 4 wEach 0::zt 4 s 0::zt 4 wIn 0::(exprT y++(zt 3 [] 0::(blockT b++(wordT wEnd++S)))):=by simp
  rw[e] at hf ⊢
  refine⟨rfl,rfl,by show(4:Int)≠3; decide,?_⟩
  simp only[List.length_cons,List.length_append] at hf
  rw[actR,if_neg (by rw[Qc5]; decide),if_pos (by rw[Qc5]; decide),List.tail_cons,Qo7 hn,Rs.bind,Q1w,Rs.bind,Qmv hy,Rs.bind,ih.stop (by omega) h2 (by simp only[List.length_append]; omega) (by rw[Qf2]; rfl),Rs.bind,Qso]; rfl
 have b11:(k==11)=false:=beq_eq_false_iff_ne.2 k11
 simp only[b11,Bool.false_or] at hs
 by_cases k12:k=12
 ·subst k12
  simp only[beq_self_eq_true,if_true,Bool.and_eq_true] at hs
  obtain⟨hn,h1,h2,e2,e3,h3⟩:=hs
  obtain⟨y,rfl,hy⟩:=one (by rw[Bool.and_eq_true]; exact h1)
  rw[nl e2,ni e3,if_pos h3,Qco h3]
  refine⟨zt 4 wLet 0::zt 4 s 0::zt 11 [] 0::(exprT y++(zt 3 [] 0::(blockT b++wordT wEnd))),?_,fun S hf=>?_⟩
  ·show zt 2 [] 0::([zt 4 wLet 0,zt 4 s 0,zt 11 [] 0]++(exprT y++[zt 3 [] 0]))++_=_
   simp
  have e:(zt 4 wLet 0::zt 4 s 0::zt 11 [] 0::(exprT y++(zt 3 [] 0::(blockT b++wordT wEnd))))++S=zt 4 wLet 0::zt 4 s 0::zt 11 [] 0::(exprT y++(zt 3 [] 0::(blockT b++(wordT wEnd++S)))):=by simp
  rw[e] at hf ⊢
  refine⟨rfl,rfl,by show(4:Int)≠3; decide,?_⟩
  simp only[List.length_cons,List.length_append] at hf
  rw[actR,if_neg (by rw[Qc5]; decide),if_neg (by rw[Qc5]; decide),if_pos (by rw[Qc5]; decide),List.tail_cons,Qo7 hn,Rs.bind,Qe8,Rs.bind,Qmv hy,Rs.bind,ih.stop (by omega) h2 (by simp only[List.length_append]; omega) (by rw[Qf2]; rfl),Rs.bind,Qso]; rfl
 have b12:(k==12)=false:=beq_eq_false_iff_ne.2 k12
 rw[b12] at hs; simp at hs
theorem Q7j:∀ n,BlkOk n:=by
 intro n
 induction n with
 | zero =>
  intro l b f i o out T h hb hl hf
  cases l with
  | nil=>exact⟨f,by simpa [blockT] using hf,by rw[blockT,List.nil_append,List.append_nil]⟩
  | cons x l=>have:=Qgp x; rw[nns] at h; omega
 | succ n ih =>
  intro l
  induction l with
  | nil=>intro b f i o out T h hb hl hf; exact⟨f,by simpa [blockT] using hf,by rw[blockT,List.nil_append,List.append_nil]⟩
  | cons x l ihl =>
   intro b f i o out T h hb hl hf
   rw[nns] at h
   rw[blockP,Bool.and_eq_true,Bool.and_eq_true] at hb
   obtain⟨hs,hbad,hbl⟩:=hb
   rw[blockT,List.append_assoc] at hf ⊢
   obtain⟨g,rfl⟩:∃ g,f=g+1:=⟨f-1,by omega⟩
   by_cases k8:x.Kind=8
   ·have hlit:litB (x::l)=true:=by rw[litB,k8]; rfl
    have ho:=hl hlit
    rw[badSt,k8] at hbad
    simp only[beq_self_eq_true,Bool.true_and,Bool.not_eq_true', Bool.or_eq_false_iff] at hbad
    have ex:x=⟨8,[],x.Text,0,[],[],[]⟩:=by
     rw[Qnb,k8] at hs
     simp only[beq_self_eq_true,if_true,Bool.and_eq_true] at hs
     obtain⟨k,s,t,v,a,b,c⟩:=x
     obtain⟨-,-,e1,e2,h1,h2,h3⟩:=hs
     simp only at k8 e1 e2 h1 h2 h3 ⊢
     rw[k8,show s=[] by simpa using e1,show v=0 by simpa using e2,Qco h1,Qco h2,Qco h3]
    have e8:(x.Kind==8)=true:=by rw[k8]; rfl
    rw[Qwo,if_pos e8] at hf ⊢
    obtain⟨f', q1,q2⟩:=ihl b g i o (out++[x]) T (by have:=Qgp x; omega) hbl (fun q=>by rw[hbad.1] at q; cases q) (by simp only[List.length_append,List.length_cons,List.length_nil] at hf ⊢; omega)
    refine⟨f', q1,?_⟩
    rw[List.cons_append,List.nil_append,loopR,if_neg (List.cons_ne_nil _ _),if_pos (by rfl)]
    show loopR g i o (addLit out x.Text) (blockT l++T)=_
    rw[Q2y ho,← ex,q2,List.append_assoc]; rfl
   ·obtain⟨A,e,hA⟩:=Q7i ih g x (by omega) hs k8
    rw[e] at hf ⊢
    simp only[List.cons_append,List.length_cons] at hf ⊢
    obtain⟨a1,a2,a3,a4⟩:=hA (blockT l++T) (by omega)
    have hnl:litB (out++[x]).reverse=false:=by
     rw[List.reverse_append]
     show(x.Kind==8)=false
     exact beq_eq_false_iff_ne.2 k8
    obtain⟨f', q1,q2⟩:=ihl b g i o (out++[x]) T (by have:=Qgp x; omega) hbl (fun _=>hnl) (by simp only[List.length_append] at hf ⊢; omega)
    refine⟨f', q1,?_⟩
    have n1:ahead wEnd (zt 2 [] 0::(A++(blockT l++T)))=false:=a1
    have n2:ahead wElse (zt 2 [] 0::(A++(blockT l++T)))=false:=a2
    rw[loopR,if_neg (List.cons_ne_nil _ _),if_neg (show ¬ kd (zt 2 [] 0::(A++(blockT l++T)))=1 from(show ¬ (2:Int)=1 by decide)),n1,n2,Bool.and_false,Bool.and_false,if_neg (by decide),if_pos (by rfl),List.tail_cons,if_neg a3,a4,Rs.bind,q2,List.append_assoc]; rfl
theorem Q2z (l:List Qaa) (hb:blockP l false=true):bl20 false false (blockT l) = .ok l []:=by
 obtain⟨f', h1,h2⟩:=Q7j (nns l) l false ((blockT l).length+1) false false [] [] (Nat.le_refl _) hb (fun _=>rfl) (by simp)
 rw[List.append_nil,List.nil_append] at h2
 obtain⟨g,rfl⟩:∃ g,f' = g+1:=⟨f' - 1,by omega⟩
 rw[bl20,h2,loopR,if_pos rfl]
theorem Q43 (l:List Qaa) (ho:allL okNd l) (hi:isP l=true) (h6:(blockW l).length≤65536):parseP (blockW l)=(l,0,0):=by
 unfold isP at hi
 rw[Bool.and_eq_true,Bool.and_eq_true] at hi
 obtain⟨h1,h2,hb⟩:=hi
 have h1:=of_decide_eq_true h1
 have h2:=of_decide_eq_true h2
 obtain⟨L,e1,e2⟩:=Qyw l ho hb h6
 have hz:=Q7h false false L
 rw[e2,Q2z l hb] at hz
 unfold parseP
 rw[e1]
 simp only[if_true]
 cases hx:bl20 false false L with
 | bad r=>rw[hx] at hz; cases hz
 | ok out r =>
  rw[hx] at hz
  injection hz with z1 z2
  subst z1
  simp only
  rw[if_neg (by omega),if_neg (by omega)]
end Go.Proofs.YtagokkpnfceidaaDoor
end

section
namespace Go.Proofs.YtagokkpnfceidaaDoor
open Go.RowKit
set_option linter.unusedSimpArgs false
set_option linter.unusedVariables false
theorem exa1:parseP [123,123,32,105,102,32,120,46,121,32,125,125,97,123,123,32,101,110,100,32,125,125]=([⟨10,[],[],0,[⟨5,[121],[],0,[⟨4,[120],[],0,[],[],[]⟩],[],[]⟩],[⟨8,[],[97],0,[],[],[]⟩],[]⟩],0,0):=by kernel_rfl
theorem exa2:parseP [123,123,32,101,110,100,32,125,125]=([],3,7):=by kernel_rfl
theorem exa3:parseP [123,123,32,105,102,32,120,32,125,125]=([],10,7):=by kernel_rfl
theorem awake20:Qcc=some true:=by
 rw[Qcc,prsIs,prsIs,prsIs,exa1,exa2,exa3]
 rfl
end Go.Proofs.YtagokkpnfceidaaDoor
end

section
namespace Go.Proofs.YtagokkpnfceidaaDoor
open Go.RowKit
structure smB (B:Nat) (x:Qaa):Prop where
 nm:x.Name.length≤B
 tx:x.Text.length≤B
 qt:x.Kind=1→(quoteP x.Text).1.length≤B
 rg : -9223372036854775808≤x.N∧x.N≤9223372036854775807
theorem Q6a (n:Int) (h1 : -9223372036854775808≤n) (h2:n≤9223372036854775807):(textL n).length≤20:=by
 have:=Qu5 n.natAbs 18 (by omega)
 unfold textL
 split<;>simp<;>omega
theorem Q44 (B:Nat):∀ n (x:Qaa),nn x≤n→allN (smB B) x→(exprW x).length+2≤(B+30)*nn x:=by
 intro n
 induction n with
 | zero=>intro x h; have:=Qgp x; omega
 | succ n ih =>
  intro x h ho
  rw[nn_eq] at h
  obtain⟨hq,ho1,-,-⟩:=(Qe5 _ x).1 ho
  have hnm:=hq.nm
  have args:∀ (l:List Qaa) (more:Bool),nns l≤n→allL (smB B) l→(argsW l more).length≤(B+30)*nns l:=by
   intro l
   induction l with
   | nil=>intro more _ _; simp[argsW]
   | cons y r ihr =>
    intro more hl ho
    rw[nns] at hl
    rw[allL] at ho
    have h1:=ih y (by omega) ho.1
    have h2:=ihr true (by omega) ho.2
    rw[argsW,nns,Nat.mul_add]
    cases more<;>simp<;>omega
  have head:∀ (l:List Qaa),nns l≤n→allL (smB B) l→(headW l).length≤(B+30)*nns l:=by
   intro l hl ho
   cases l with
   | nil=>simp[headW]
   | cons y r =>
    rw[nns] at hl
    rw[allL] at ho
    have h1:=ih y (by omega) ho.1
    rw[headW,nns,Nat.mul_add]
    omega
  have ha:=args x.L false (by omega) ho1
  have hh:=head x.L (by omega) ho1
  have ht:=Q6a x.N hq.rg.1 hq.rg.2
  rw[Qwl,nn_eq]
  have e:(B+30)*(1+nns x.L+nns x.Then+nns x.Else)=(B+30)+(B+30)*nns x.L+(B+30)*nns x.Then+(B+30)*nns x.Else:=by
   rw[Nat.mul_add,Nat.mul_add,Nat.mul_add,Nat.mul_one]
  rw[e]
  by_cases k1:x.Kind=1
  ·have:=hq.qt k1
   simp only[k1,beq_self_eq_true,if_true]; omega
  have b1:(x.Kind==1)=false:=beq_eq_false_iff_ne.2 k1
  simp only[b1,Bool.false_eq_true,if_false]
  cases (x.Kind==2) with
  | true=>simp only[if_true]; omega
  | false =>
   cases (x.Kind==3) with
   | true=>cases (x.N==1)<;>simp<;>omega
   | false =>
    cases (x.Kind==4) with
    | true=>simp; omega
    | false =>
     cases (x.Kind==7) with
     | true=>simp; omega
     | false =>
      cases (x.Kind==5) with
      | true=>simp; omega
      | false =>
       cases (x.Kind==6) with
       | true=>simp; omega
       | false=>simp; omega
theorem Q6b (B:Nat) (k:Int) (s:List UInt8) (l:List Qaa) (hs:s.length≤B) (ho:allL (smB B) l):(actW k s l).length≤B+16+(B+30)*nns l:=by
 have hh:(headW l).length≤(B+30)*nns l:=by
  cases l with
  | nil=>simp[headW]
  | cons y r =>
   rw[allL] at ho
   have h1:=Q44 B (nn y) y (Nat.le_refl _) ho.1
   rw[headW,nns,Nat.mul_add]
   omega
 have hw:(wordsW k s).length≤B+9:=by
  unfold wordsW
  cases (k==9)<;>cases (k==13)<;>cases (k==10)<;>cases (k==11)<;>simp<;>omega
 unfold actW
 simp only[List.length_append,List.length_cons,List.length_nil]
 omega
theorem Q20 (B:Nat):∀ n (l:List Qaa),nns l≤n→allL (smB B) l→(blockW l).length≤(B+60)*nns l:=by
 intro n
 induction n with
 | zero=>intro l h _; cases l with
  | nil=>simp[blockW]
  | cons x r=>have:=Qgp x; simp[nns] at h; omega
 | succ n ih =>
  intro l
  induction l with
  | nil=>intro _ _; simp[blockW]
  | cons x r ihr =>
   intro h ho
   rw[nns,nn_eq] at h
   rw[allL,Qe5] at ho
   obtain⟨⟨hq,ho1,ho2,ho3⟩,ho4⟩:=ho
   have hr:=ihr (by omega) ho4
   have ht:=ih x.Then (by omega) ho2
   have he:=ih x.Else (by omega) ho3
   have ha:=Q6b B x.Kind x.Name x.L hq.nm ho1
   have htx:=hq.tx
   have hm:(B+30)*nns x.L≤(B+60)*nns x.L:=Nat.mul_le_mul_right _ (by omega)
   have e:(B+60)*(1+nns x.L+nns x.Then+nns x.Else+nns r)=(B+60)+(B+60)*nns x.L+(B+60)*nns x.Then+(B+60)*nns x.Else+(B+60)*nns r:=by
    rw[Nat.mul_add,Nat.mul_add,Nat.mul_add,Nat.mul_add,Nat.mul_one]
   rw[blockW,Qwm,nns,nn_eq,e,List.length_append]
   cases (x.Kind==8) with
   | true=>simp only[if_true]; omega
   | false =>
    cases (x.Kind==9||x.Kind==13) with
    | true=>simp only[if_true,Bool.false_eq_true,if_false]; omega
    | false=>cases zl x.Else<;>simp<;>omega
theorem Q6c {Q R:Qaa→Prop} (l:List Qaa) (h:allL (fun x=>Q x∧R x) l):allL Q l∧allL R l:=by
 have key:∀ n (l:List Qaa),nns l≤n→allL (fun x=>Q x∧R x) l→allL Q l∧allL R l:=by
  intro n
  induction n with
  | zero=>intro l h _; cases l with
   | nil=>simp[allL]
   | cons x r=>have:=Qgp x; simp[nns] at h; omega
  | succ n ih =>
   intro l
   induction l with
   | nil=>intro _ _; simp[allL]
   | cons x r ihr =>
    intro h ho
    rw[nns,nn_eq] at h
    rw[allL,Qe5] at ho
    obtain⟨⟨hq,h1,h2,h3⟩,h4⟩:=ho
    have a1:=ih x.L (by omega) h1
    have a2:=ih x.Then (by omega) h2
    have a3:=ih x.Else (by omega) h3
    have a4:=ihr (by omega) h4
    rw[allL,allL,Qe5,Qe5]
    exact⟨⟨⟨hq.1,a1.1,a2.1,a3.1⟩,a4.1⟩,⟨⟨hq.2,a1.2,a2.2,a3.2⟩,a4.2⟩⟩
 exact key _ l (Nat.le_refl _) h
end Go.Proofs.YtagokkpnfceidaaDoor
end
