/- The proof's texts, part 11 of 12: the walks by a logic in which data are by value, the plain laws, and at the end the law, for every input. -/
import Derived.Test.YtagokkpnfceidaaGreatDoorMgParseTrees10

noncomputable section
namespace Go.Proofs.YtagokkpnfceidaaGreatDoor
open Go.RowKit
set_option linter.unusedSimpArgs false
set_option linter.unusedVariables false
def run(p:UInt8→Bool)(l:List UInt8):Nat:=(l.takeWhile p).length
theorem Qnd(p:UInt8→Bool)(c:UInt8)(r:List UInt8):run p (c::r)=if p c then 1+run p r else 0:=by
 unfold run;rw[List.takeWhile_cons];split
 ·rw[List.length_cons]; omega
 ·rfl
theorem Q0l(p:UInt8→Bool):∀ l:List UInt8,run p l≤l.length
 | []=>Nat.le_refl _
 | c::r=>by
  have:=Q0l p r;rw[Qnd,List.length_cons]; split<;>omega
theorem Qanq(s:List UInt8)(hs:s.length≤65536)(a:Int)(toks:List Qaa):∀ k,k≤s.length→Qbe s a toks k=some ((k+run digB (s.drop k):Nat):Int):=by
 refine upto ?_ fun k hk ih=>?_
 ·rw[Qbe,ltI,decide_eq_false (by omega),if_neg (by decide),Qac,if_neg (by decide),List.drop_length]; rfl
 ·rw[Qbe,ltI,decide_eq_true hk,if_pos rfl,Qbn (by omega),Qbr,getE hk,Qac,Qafu,Qac,Qac,ih,Qcj hk,Qnd];cases digB s[k] with
  | true=>rw[if_pos rfl,if_pos rfl,Nat.add_assoc]
  | false=>rfl
theorem Qanr(s:List UInt8)(hs:s.length≤65536)(a:Int)(toks:List Qaa):∀ k,k≤s.length→Qba s a toks k=some ((k+run letB (s.drop k):Nat):Int):=by
 refine upto ?_ fun k hk ih=>?_
 ·rw[Qba,ltI,decide_eq_false (by omega),if_neg (by decide),Qac,if_neg (by decide),List.drop_length]; rfl
 ·rw[Qba,ltI,decide_eq_true hk,if_pos rfl,Qbn (by omega),Qbr,getE hk,Qac,Q95,Qac,Qac,ih,Qcj hk,Qnd];cases letB s[k] with
  | true=>rw[if_pos rfl,if_pos rfl,Nat.add_assoc]
  | false=>rfl
theorem Qans(s:List UInt8)(hs:s.length≤65536)(p:Int):∀ k,k≤s.length→Qjz s p k=some ((k+run letB (s.drop k):Nat):Int):=by
 refine upto ?_ fun k hk ih=>?_
 ·rw[Qjz,ltI,decide_eq_false (by omega),if_neg (by decide),Qac,if_neg (by decide),List.drop_length]; rfl
 ·have hl:=Qank s[k];rw[Qjz,ltI,decide_eq_true hk,if_pos rfl,Qbn (by omega)];simp only[Qbr,getE hk,Qac];rw[show(Qg1 (s[k].toNat:Int)>>=fun x13=>if x13=true then some true else Qg0 (s[k].toNat:Int)>>=fun x15=>if x15=true then some true else some ((s[k].toNat:Int)==95))=some (letB s[k]) from hl,ih,Qcj hk,Qnd];cases letB s[k] with
  | true=>rw[Qac,if_pos rfl,if_pos rfl,Nat.add_assoc]
  | false=>rfl
theorem Qant(s:List UInt8)(hs:s.length≤65536)(p:Int):∀ k,k≤s.length→Qj0 s p k=some ((k+run digB (s.drop k):Nat):Int):=by
 refine upto ?_ fun k hk ih=>?_
 ·rw[Qj0,ltI,decide_eq_false (by omega),if_neg (by decide),Qac,if_neg (by decide),List.drop_length]; rfl
 ·rw[Qj0,ltI,decide_eq_true hk,if_pos rfl,Qbn (by omega),Qbr,getE hk,Qac,Qabm,Qac,Qac,ih,Qcj hk,Qnd];cases digB s[k] with
  | true=>rw[if_pos rfl,if_pos rfl,Nat.add_assoc]
  | false=>rfl
def Qwq:List UInt8→Option (Int×List UInt8×Int×Nat)
 | []=>none
 | c::r=>match sgP c with
  | some j=>some (j,[],0,1)
  | none =>
   if c=34 then(quoP (r.length+1) r).map fun q=>(5,q.1,0,1+q.2)
   else if Qer c then(if Qd2 ((c::r).take (1+run letB r)) then some (4,(c::r).take (1+run letB r),0,1+run letB r) else none)
   else if c=45∨digB c=true then(if(numP ((c::r).take (1+run digB r))).2 then some (6,[],(numP ((c::r).take (1+run digB r))).1,1+run digB r) else none)
   else none
theorem Qie(c:UInt8)(r:List UInt8):Qwq (c::r)=match sgP c with
  | some j=>some (j,[],0,1)
  | none =>
   if c=34 then(quoP (r.length+1) r).map fun q=>(5,q.1,0,1+q.2)
   else if Qer c then(if Qd2 ((c::r).take (1+run letB r)) then some (4,(c::r).take (1+run letB r),0,1+run letB r) else none)
   else if c=45∨digB c=true then(if(numP ((c::r).take (1+run digB r))).2 then some (6,[],(numP ((c::r).take (1+run digB r))).1,1+run digB r) else none)
   else none:=rfl
theorem Qrr{l:List UInt8}{o:Int×List UInt8×Int×Nat}(h:Qwq l=some o):1≤o.2.2.2∧o.2.2.2≤l.length:=by
 cases l with
 | nil=>cases h
 | cons c r =>
  have a:=Q0l letB r;have b:=Q0l digB r;rw[Qie] at h;split at h
  ·cases h; simp
  ·split at h
   ·obtain⟨q,h1,rfl⟩:=Option.map_eq_some_iff.1 h;have:=Qwp _ _ _ h1;simp only[List.length_cons]; omega
   ·split at h
    ·split at h
     ·cases h; simp only[List.length_cons]; omega
     ·cases h
    ·split at h
     ·split at h
      ·cases h; simp only[List.length_cons]; omega
      ·cases h
     ·cases h
theorem Qwr{l:List UInt8}{o:Int×List UInt8×Int×Nat}(h:Qwq l=some o):o.1≠1∧o.1≠3:=by
 cases l with
 | nil=>cases h
 | cons c r =>
  rw[Qie] at h;split at h
  ·rename_i j hj;cases h;simp only;unfold sgP at hj
   repeat' split at hj
   all_goals first | (cases hj; decide) | cases hj
  ·split at h
   ·obtain⟨q,h1,rfl⟩:=Option.map_eq_some_iff.1 h;simp
   ·split at h
    ·split at h
     ·cases h; simp
     ·cases h
    ·split at h
     ·split at h
      ·cases h; simp
      ·cases h
     ·cases h
def putT(j:Int)(t:List UInt8)(n:Int)(k m:Nat):Qaa:=⟨j,t,n,(k:Int),((k+m:Nat):Int)⟩
theorem put2{j:Int}{t:List UInt8}{n:Int}{m:Nat}{s:List UInt8}{k:Nat}{toks:List Qaa}(hk:k≤200000)(hm:m≤200000)(ht:toks.length≤200000):Qa3 j t n (m:Int) s (k:Int) toks=some (((k+m:Nat):Int),toks++[putT j t n k m]):=by
 have ew:wr ((k:Int)+(m:Int))=((k+m:Nat):Int):=by rw[Qd0 (by omega) (by omega)]; rfl
 rw[Qa3,ew,Qin (by simp; omega) (by simp; omega),Qac];rfl
theorem Qanu(s:List UInt8)(k:Nat)(hk:k<s.length)(hs:s.length≤65536)(toks:List Qaa)(ht:toks.length≤200000):Qfk s k toks=some (match sgP s[k] with | some j=>(true,((k+1:Nat):Int),toks++[putT j [] 0 k 1]) | none=>(false,(k:Int),toks)):=by
 have step:∀ (i:Nat) (hi:i<5),Qbt s k toks (i:Int)=if s[k]=([46,40,41,44,61]:List UInt8)[i] then some (.inr (((k+1:Nat):Int),toks++[putT ((7+i:Nat):Int) [] 0 k 1])) else Qbt s k toks ((i+1:Nat):Int):=fun i hi=>by
  have hp:∀ j,Qa3 j [] 0 1 s k toks=some (((k+1:Nat):Int),toks++[putT j [] 0 k 1]):=fun j=>put2 (m:=1) (by omega) (by omega) ht
  have hd:decide ((i:Int)<5)=true:=decide_eq_true (by omega);rw[Qbt,hd,if_pos rfl,Qbn (by omega),Qbr,Qbr,getE hk];obtain rfl | rfl | rfl | rfl | rfl:i=0∨i=1∨i=2∨i=3∨i=4:=by omega
  all_goals
   simp only[List.getElem?_cons_zero,List.getElem?_cons_succ,Qac,hp]
   first
    | rw[show((s[k].toNat:Int)==46)=decide (s[k]=46) from eqC _ 46 (by omega)]
    | rw[show((s[k].toNat:Int)==40)=decide (s[k]=40) from eqC _ 40 (by omega)]
    | rw[show((s[k].toNat:Int)==41)=decide (s[k]=41) from eqC _ 41 (by omega)]
    | rw[show((s[k].toNat:Int)==44)=decide (s[k]=44) from eqC _ 44 (by omega)]
    | rw[show((s[k].toNat:Int)==61)=decide (s[k]=61) from eqC _ 61 (by omega)]
   simp only[decide_eq_true_eq,List.getElem_cons_zero,List.getElem_cons_succ];rfl
 have h5:Qbt s k toks ((5:Nat):Int)=some (.inl ()):=by rw[Qbt]; rfl
 rw[Qfk,show(0:Int)=((0:Nat):Int) from rfl,step 0 (by omega),step 1 (by omega),step 2 (by omega),step 3 (by omega),step 4 (by omega),h5];simp only[List.getElem_cons_zero,List.getElem_cons_succ];unfold sgP;by_cases a:s[k]=46
 ·rw[if_pos a,if_pos a]; rfl
 by_cases b:s[k]=40
 ·rw[if_neg a,if_neg a,if_pos b,if_pos b]; rfl
 by_cases d:s[k]=41
 ·rw[if_neg a,if_neg a,if_neg b,if_neg b,if_pos d,if_pos d]; rfl
 by_cases e:s[k]=44
 ·rw[if_neg a,if_neg a,if_neg b,if_neg b,if_neg d,if_neg d,if_pos e,if_pos e]; rfl
 by_cases f:s[k]=61
 ·rw[if_neg a,if_neg a,if_neg b,if_neg b,if_neg d,if_neg d,if_neg e,if_neg e,if_pos f,if_pos f]; rfl
 rw[if_neg a,if_neg a,if_neg b,if_neg b,if_neg d,if_neg d,if_neg e,if_neg e,if_neg f,if_neg f]; rfl
theorem Qanv(s:List UInt8)(k:Nat)(hk:k<s.length)(hs:s.length≤65536)(toks:List Qaa)(ht:toks.length≤200000):Qfl s k toks=some (match quoP ((s.drop (k+1)).length+1) (s.drop (k+1)) with | some q=>(true,((k+(1+q.2):Nat):Int),toks++[putT 5 q.1 0 k (1+q.2)]) | none=>(false,(k:Int),toks)):=by
 obtain⟨o,o1,o2⟩:=Qano s hs k toks false ((s.drop (k+1)).length+1) (k+1) [] (by omega) (by rw[List.length_drop]; omega) (by simp);rw[Qfl,Qbn (by omega)];show(Qbu s k toks ((k+1:Nat):Int) false (s2b [])>>=_)=_;rw[o1,Qac];cases hq:quoP ((s.drop (k+1)).length+1) (s.drop (k+1)) with
 | none =>
  rw[hq] at o2;rcases o2 with ⟨y,rfl⟩ | ⟨f,b,rfl⟩
  ·rfl
  ·simp only;rw[decide_eq_true (by omega),if_pos rfl]
 | some q =>
  rw[hq] at o2;obtain⟨f,rfl⟩:=o2;obtain⟨q1,q2,q3⟩:=Qwp _ _ q hq;rw[List.length_drop] at q2;simp only;have ew:wr ((wr (((k+1+q.2-1:Nat):Int)+1))-(k:Int))=((1+q.2:Nat):Int):=by
   rw[Qbn (by omega),Qd0 (by omega) (by omega)]; omega
  rw[decide_eq_false (by omega),if_neg (by decide),Qdl,Qakh,Qac,ew,put2 (by omega) (by omega) ht,Qac];rfl
theorem Qakx(s:List UInt8)(k:Nat)(hk:k<s.length)(hs:s.length≤65536)(toks:List Qaa)(ht:toks.length≤200000):Qd7 s k toks =
  some (if(numP ((s.drop k).take (1+run digB (s.drop (k+1))))).2=true then(true,((k+(1+run digB (s.drop (k+1))):Nat):Int),toks++[putT 6 [] (numP ((s.drop k).take (1+run digB (s.drop (k+1))))).1 k (1+run digB (s.drop (k+1)))]) else(false,(k:Int),toks)):=by
 have hr:=Q0l digB (s.drop (k+1));rw[List.length_drop] at hr;have hl:((s.drop k).take (1+run digB (s.drop (k+1)))).length=1+run digB (s.drop (k+1)):=by rw[List.length_take,List.length_drop]; omega
 rw[Qd7,Qbn (by omega),Qdd,Qanq s hs _ _ _ (by omega),Qac,show k+1+run digB (s.drop (k+1))=k+(1+run digB (s.drop (k+1))) by omega,cutN (by omega),Qac,Qac,Qm9,Qa2 (by rw[hl]; omega),Qac,Qac,hl];cases hn:(numP ((s.drop k).take (1+run digB (s.drop (k+1))))).2 with
 | true=>rw[if_pos rfl,put2 (by omega) (by omega) ht,Qac,if_pos rfl]
 | false=>rfl
theorem Qame(s:List UInt8)(k:Nat)(hk:k<s.length)(hs:s.length≤65536)(toks:List Qaa)(ht:toks.length≤200000)(hc:letB s[k]=true):Qfm s k toks =
  some (if Qd2 ((s.drop k).take (1+run letB (s.drop (k+1))))=true then(true,((k+(1+run letB (s.drop (k+1))):Nat):Int),toks++[putT 4 ((s.drop k).take (1+run letB (s.drop (k+1)))) 0 k (1+run letB (s.drop (k+1)))]) else(false,(k:Int),toks)):=by
 have hr:=Q0l letB (s.drop (k+1));rw[List.length_drop] at hr;have e:run letB (s.drop k)=1+run letB (s.drop (k+1)):=by rw[Qcj hk,Qnd,if_pos hc]
 have hl:((s.drop k).take (1+run letB (s.drop (k+1)))).length=1+run letB (s.drop (k+1)):=by rw[List.length_take,List.length_drop]; omega
 rw[Qfm,Qc6,Qanr s hs _ _ _ (by omega),Qac,e,cutN (by omega),Qac,Qac,Qakg _ (by rw[hl]; omega),Qac,hl];cases Qd2 ((s.drop k).take (1+run letB (s.drop (k+1)))) with
 | true=>rw[Bool.not_true,if_neg (by decide),put2 (by omega) (by omega) ht,Qac,if_pos rfl]
 | false=>rfl
theorem Qaf8(c:UInt8):letB c=true↔(Qer c=true∨digB c=true∨c=95):=by
 unfold letB;rw[Bool.or_eq_true,Bool.or_eq_true,beq_iff_eq];have:c.toNat=95↔c=95:=⟨fun h=>UInt8.toNat_inj.1 h,fun h=>by rw[h]; rfl⟩;rw[this]
theorem Qaaf{c:UInt8}(h:c=34∨Qer c=true∨c=45∨digB c=true∨c=95):sgP c=none:=by
 have ne:∀ d:UInt8,(d=46∨d=40∨d=41∨d=44∨d=61)→c≠d:=fun d hd e=>by
  subst e;rcases hd with rfl | rfl | rfl | rfl | rfl<;>revert h<;>decide
 have f1:=ne 46 (by decide);have f2:=ne 40 (by decide);have f3:=ne 41 (by decide);have f4:=ne 44 (by decide);have f5:=ne 61 (by decide);simp[sgP,f1,f2,f3,f4,f5]
theorem Qamf{l:List UInt8}{m:Nat}:Qd2 ((95::l).take (1+m))=false:=by
 rw[Nat.add_comm,List.take_succ_cons];unfold Qd2;rw[Qwm];simp
theorem lOne(s:List UInt8)(k:Nat)(hk:k<s.length)(hs:s.length≤65536)(toks:List Qaa)(ht:toks.length≤200000):Qdt s k toks =
  some (match Qwq (s.drop k) with | some o=>(true,((k+o.2.2.2:Nat):Int),toks++[putT o.1 o.2.1 o.2.2.1 k o.2.2.2]) | none=>(false,(k:Int),toks)):=by
 have e34:((s[k].toNat:Int)==34)=decide (s[k]=34):=eqC s[k] 34 (by omega);have e45:((s[k].toNat:Int)==45)=decide (s[k]=45):=eqC s[k] 45 (by omega);rw[Qdt,Qbr,getE hk,Qac,e34,e45,Qafu,Q95,Qanv s k hk hs toks ht,Qakx s k hk hs toks ht,Qanu s k hk hs toks ht];rw[Qcj hk,Qwq];by_cases h34:s[k]=34
 ·rw[decide_eq_true h34,if_pos rfl,Qac,Qaaf (.inl h34)];simp only;rw[if_pos h34];cases quoP ((s.drop (k+1)).length+1) (s.drop (k+1))<;>rfl
 ·rw[decide_eq_false h34,if_neg (by decide)];by_cases hn:s[k]=45∨digB s[k]=true
  ·have h1:(if decide (s[k]=45)=true then some true else(some (digB s[k])>>=fun x4=>some x4):Option Bool)=some true:=by
    rcases hn with h | h
    ·rw[decide_eq_true h,if_pos rfl]
    ·rw[h]; split<;>rfl
   have hsm:¬ Qer s[k]=true:=fun h=>by
    have a:97≤s[k].toNat∧s[k].toNat≤122:=by simpa [Qer] using h
    rcases hn with h | h
    ·rw[h] at a; exact absurd a.1 (by decide)
    ·have:48≤s[k].toNat∧s[k].toNat≤57:=by simpa [digB] using h
     omega
   rw[h1,Qac,if_pos rfl,Qac,Qaaf (by rcases hn with h | h; exact .inr (.inr (.inl h)); exact .inr (.inr (.inr (.inl h))))];simp only;rw[if_neg h34,if_neg hsm,if_pos hn];cases (numP ((s[k]::s.drop (k+1)).take (1+run digB (s.drop (k+1))))).2<;>rfl
  ·have h1:(if decide (s[k]=45)=true then some true else(some (digB s[k])>>=fun x4=>some x4):Option Bool)=some false:=by
    rw[decide_eq_false (fun h=>hn (.inl h)),if_neg (by decide),Qac,show digB s[k]=false by simpa using fun h=>hn (.inr h)]
   rw[h1,Qac,if_neg (by decide),Qac];by_cases hl:letB s[k]=true
   ·rw[hl,if_pos rfl,Qame s k hk hs toks ht hl,Qac,Qcj hk];have hx:=(Qaf8 s[k]).1 hl;rw[Qaaf (by rcases hx with h | h | h; exact .inr (.inl h); exact .inr (.inr (.inr (.inl h))); exact .inr (.inr (.inr (.inr h))))];simp only;rw[if_neg h34];by_cases hsm:Qer s[k]=true
    ·rw[if_pos hsm];cases Qd2 ((s[k]::s.drop (k+1)).take (1+run letB (s.drop (k+1))))<;>rfl
    ·have h95:s[k]=95:=by
      rcases hx with h | h | h
      ·exact absurd h hsm
      ·exact absurd (.inr h) hn
      ·exact h
     rw[if_neg hsm,if_neg hn,h95,Qamf];rfl
   ·rw[show letB s[k]=false by simpa using hl,if_neg (by decide),Qac];cases hg:sgP s[k] with
    | some j=>rfl
    | none =>
     simp only;have hsm:¬ Qer s[k]=true:=fun h=>hl ((Qaf8 _).2 (.inl h))
     rw[if_neg h34,if_neg hsm,if_neg hn]
theorem rOne(s:List UInt8)(k:Nat)(hk:k<s.length)(hs:s.length≤65536)(h2:two 125 125 (s.drop k)=false):match Qwq (s.drop k) with | some o=>Qo6 s k=some (putT o.1 o.2.1 o.2.2.1 k o.2.2.2,true) | none=>∃ t,Qo6 s k=some (t,false):=by
 have e34:((s[k].toNat:Int)==34)=decide (s[k]=34):=eqC s[k] 34 (by omega);have e45:((s[k].toNat:Int)==45)=decide (s[k]=45):=eqC s[k] 45 (by omega);have hr:=Q0l digB (s.drop (k+1));have hr2:=Q0l letB (s.drop (k+1));rw[List.length_drop] at hr hr2;have h1:Qo6 s k=some (match sgP s[k] with
   | some j=>(putT j [] 0 k 1,true)
   | none=>if s[k]=34 then(match quoP ((s.drop (k+1)).length+1) (s.drop (k+1)) with | some q=>(putT 5 q.1 0 k (1+q.2),true) | none=>(⟨5,[],0,k,-1⟩,false))
    else if Qer s[k]=true then(putT 4 ((s.drop k).take (1+run letB (s.drop (k+1)))) 0 k (1+run letB (s.drop (k+1))),Qd2 ((s.drop k).take (1+run letB (s.drop (k+1)))))
    else if s[k]=45∨digB s[k]=true then(putT 6 [] (numP ((s.drop k).take (1+run digB (s.drop (k+1))))).1 k (1+run digB (s.drop (k+1))),(numP ((s.drop k).take (1+run digB (s.drop (k+1))))).2)
    else(⟨0,[],0,k,((k+1:Nat):Int)⟩,false)):=by
  rw[Qo6,Qbr,getE hk,Qac,Qamd 125 125 s k (by omega) hs,h2,Qac,if_neg (by decide),Qal9,Qac,e34,e45,Qbn (by omega),Qabn,Qabm];cases hg:sgP s[k] with
  | some j=>rfl
  | none =>
   simp only;by_cases h34:s[k]=34
   ·rw[decide_eq_true h34,if_pos rfl,if_pos h34,Qsd,Qbn (by omega)];obtain⟨o,o1,o2⟩:=Qanp s hs ((s.drop (k+1)).length+1) (k+1) [] (by omega) (by rw[List.length_drop]; omega) (by simp);rw[o1,Qac];cases hq:quoP ((s.drop (k+1)).length+1) (s.drop (k+1)) with
    | none =>
     rw[hq] at o2;rcases o2 with rfl | rfl<;>rfl
    | some q =>
     rw[hq] at o2;rw[o2];simp only[List.nil_append,Qac];rw[decide_eq_true (by omega)];unfold putT;rw[show k+1+q.2=k+(1+q.2) by omega]
   ·rw[decide_eq_false h34,if_neg (by decide),if_neg h34,Qac];by_cases hsm:Qer s[k]=true
    ·have hl:((s.drop k).take (1+run letB (s.drop (k+1)))).length≤65536:=by rw[List.length_take,List.length_drop]; omega
     rw[hsm,if_pos rfl,if_pos rfl,Qans s hs _ _ (by omega),Qac,show k+1+run letB (s.drop (k+1))=k+(1+run letB (s.drop (k+1))) by omega,cutN (by omega),Qac,Qac,Qaig _ (by omega),Qac];rfl
    ·rw[show Qer s[k]=false by simpa using hsm,if_neg (show ¬ (false=true) by decide)];by_cases hn:s[k]=45∨digB s[k]=true
     ·have h1:(if decide (s[k]=45)=true then some true else(some (digB s[k])>>=fun x4=>some x4):Option Bool)=some true:=by
       rcases hn with h | h
       ·rw[decide_eq_true h,if_pos rfl]
       ·rw[h]; split<;>rfl
      have hl:((s.drop k).take (1+run digB (s.drop (k+1)))).length≤65536:=by rw[List.length_take,List.length_drop]; omega
      rw[h1,Qac,if_pos rfl,if_pos hn,Qant s hs _ _ (by omega),Qac,show k+1+run digB (s.drop (k+1))=k+(1+run digB (s.drop (k+1))) by omega,cutN (by omega),Qac,Qsb,Qa2 (by omega),Qac,Qac,Qaib];rfl
     ·have h1:(if decide (s[k]=45)=true then some true else(some (digB s[k])>>=fun x4=>some x4):Option Bool)=some false:=by
       rw[decide_eq_false (fun h=>hn (.inl h)),if_neg (by decide),Qac,show digB s[k]=false by simpa using fun h=>hn (.inr h)]
      rw[h1,Qac,if_neg (by decide),if_neg hn];rfl
 rw[h1,Qcj hk,Qwq];cases hg:sgP s[k] with
 | some j=>rfl
 | none =>
  simp only;by_cases h34:s[k]=34
  ·rw[if_pos h34,if_pos h34];cases quoP ((s.drop (k+1)).length+1) (s.drop (k+1)) with
   | none=>exact⟨_,rfl⟩
   | some q=>rfl
  ·rw[if_neg h34,if_neg h34];by_cases hsm:Qer s[k]=true
   ·rw[if_pos hsm,if_pos hsm];cases Qd2 ((s[k]::s.drop (k+1)).take (1+run letB (s.drop (k+1)))) with
    | true=>rfl
    | false=>exact⟨_,rfl⟩
   ·rw[if_neg hsm,if_neg hsm];by_cases hn:s[k]=45∨digB s[k]=true
    ·rw[if_pos hn,if_pos hn];cases (numP ((s[k]::s.drop (k+1)).take (1+run digB (s.drop (k+1))))).2 with
     | true=>rfl
     | false=>exact⟨_,rfl⟩
    ·rw[if_neg hn,if_neg hn];exact⟨_,rfl⟩
theorem Qamg(s:List UInt8)(k:Nat)(hs:s.length≤65536)(h2:two 125 125 (s.drop k)=true):Qo6 s k=some (putT 3 [] 0 k 2,true):=by
 have hk:k<s.length:=by have:=Q49 h2; rw[List.length_drop] at this; omega
 have ew:wr ((k:Int)+2)=((k+2:Nat):Int):=by rw[Qd0 (by omega) (by omega)]; rfl
 rw[Qo6,Qbr,getE hk,Qac,Qamd 125 125 s k (by omega) hs,h2,Qac,if_pos rfl,ew];rfl
def tokI(s:List UInt8):Nat→Nat→List Qaa→(List Qaa×Nat)⊕Nat
 | 0,k,_ =>.inr k
 | n+1,k,acc =>
  if two 125 125 (s.drop (k+blN (s.drop k))) then .inl (acc++[putT 3 [] 0 (k+blN (s.drop k)) 2],k+blN (s.drop k)+2)
  else match Qwq (s.drop (k+blN (s.drop k))) with
   | none =>.inr (k+blN (s.drop k))
   | some o=>tokI s n (k+blN (s.drop k)+o.2.2.2) (acc++[putT o.1 o.2.1 o.2.2.1 (k+blN (s.drop k)) o.2.2.2])
def litT(s:List UInt8)(k:Nat)(acc:List Qaa):List Qaa:=if 0<fnd 123 123 (s.drop k) then acc++[putT 1 ((s.drop k).take (fnd 123 123 (s.drop k))) 0 k (fnd 123 123 (s.drop k))] else acc
def Qs6(s:List UInt8)(k:Nat):Nat:=k+2+blN (s.drop (k+2))+(if oneB 35 (s.drop (k+2+blN (s.drop (k+2)))) then fnd 125 125 (s.drop (k+2+blN (s.drop (k+2)))) else 0)
def tokO(s:List UInt8):Nat→Nat→List Qaa→List Qaa×Int×Int
 | 0,_,_=>([],0,0)
 | n+1,k,acc =>
  if fnd 123 123 (s.drop k)<s.length-k then
   match tokI s (s.length+1) (Qs6 s (k+fnd 123 123 (s.drop k))) (litT s k acc++[putT 2 [] 0 (k+fnd 123 123 (s.drop k)) 2]) with
   | .inl y=>tokO s n y.2 y.1
   | .inr p=>([],(p:Int),7)
  else(litT s k acc,0,0)
theorem cutE(s:List UInt8)(k:Nat)(hk:k≤s.length):cutL s k (s.length:Int)=some (s.drop k):=by
 rw[Qku (by omega) (by omega) (by omega)];simp
theorem idxD(a b:UInt8)(s:List UInt8)(k:Nat)(hs:s.length≤65536):Qgr (s.drop k) [a,b]=some (if fnd a b (s.drop k)<s.length-k then(fnd a b (s.drop k):Int) else -1):=by
 rw[Qgr,Qc5,Qa2 (by rw[List.length_drop]; omega),Qac,Qac,lIdx,List.length_drop]
theorem fnd2(s:List UInt8)(k:Nat)(h:fnd 123 123 (s.drop k)<s.length-k):k+fnd 123 123 (s.drop k)+2≤s.length:=by
 have:=Q49 (Qajm 123 123 (s.drop k) (by rw[List.length_drop]; exact h));rw[List.length_drop,List.length_drop] at this;omega
theorem Q5a(s:List UInt8)(k:Nat)(hk:k+2≤s.length):k+2≤Qs6 s k∧Qs6 s k≤s.length:=by
 have h1:=Qtu (s.drop (k+2));have h2:=Qxh 125 125 (s.drop (k+2+blN (s.drop (k+2))));rw[List.length_drop] at h1 h2;unfold Qs6;split<;>omega
theorem Q0m(s:List UInt8):∀ (n k:Nat) (acc:List Qaa) (y:List Qaa×Nat),k≤s.length→tokI s n k acc = .inl y→k<y.2∧y.2≤s.length∧y.1.length≤acc.length+(y.2-k)
 | 0,k,acc,y,_,h=>by cases h
 | n+1,k,acc,y,hk,h=>by
  have hb:=Qtu (s.drop k);rw[List.length_drop] at hb;rw[tokI] at h;split at h
  ·rename_i h2;have:=Q49 h2;rw[List.length_drop] at this;cases h;simp only[List.length_append,List.length_cons,List.length_nil];omega
  ·split at h
   ·cases h
   ·rename_i o ho;obtain⟨o1,o2⟩:=Qrr ho;rw[List.length_drop] at o2;have:=Q0m s n _ _ y (by omega) h;simp only[List.length_append,List.length_cons,List.length_nil] at this;omega
theorem Qaf9(s:List UInt8)(hs:s.length≤65536):∀ (n k:Nat) (acc:List Qaa),k≤s.length→s.length-k<n→acc.length≤k →
  Qgg s ((k:Int),acc)=match tokI s n k acc with | .inl y=>Qdh s ((y.2:Int),y.1) | .inr p=>some ([],(p:Int),7)
 | 0,k,acc,h1,h2,_=>by omega
 | n+1,k,acc,h1,h2,h3=>by
  have hb:=Qtu (s.drop k);rw[List.length_drop] at hb;rw[Qgg,lBl s k h1 hs,Qac,Qanm 125 125 s _ (by omega) hs,Qac,tokI];by_cases h2' : two 125 125 (s.drop (k+blN (s.drop k)))=true
  ·have:=Q49 h2';rw[List.length_drop] at this;have hp:Qa3 3 [] 0 2 s ((k+blN (s.drop k):Nat):Int) acc=some (((k+blN (s.drop k)+2:Nat):Int),acc++[putT 3 [] 0 (k+blN (s.drop k)) 2]):=put2 (m:=2) (by omega) (by omega) (by omega);rw[if_pos h2', if_pos h2', hp,Qac]
  ·rw[if_neg h2', if_neg h2'];rcases Nat.lt_or_ge (k+blN (s.drop k)) s.length with hlt | hge
   ·have en:(((k+blN (s.drop k):Nat):Int)==(s.length:Int))=false:=beq_eq_false_iff_ne.2 (by omega);rw[en,if_neg (show ¬ (false=true) by decide),lOne s _ hlt hs acc (by omega),Qac];cases ho:Qwq (s.drop (k+blN (s.drop k))) with
    | none=>rfl
    | some o =>
     obtain⟨o1,o2⟩:=Qrr ho;rw[List.length_drop] at o2;simp only[Bool.not_true,Qac];rw[if_neg (show ¬ (false=true) by decide),Qaf9 s hs n _ _ (by omega) (by omega) (by simp; omega)]
   ·have en:(((k+blN (s.drop k):Nat):Int)==(s.length:Int))=true:=beq_iff_eq.2 (by omega);rw[en,if_pos rfl,Qac,if_pos rfl,List.drop_eq_nil_of_le hge];rfl
theorem Qajn(s:List UInt8)(hs:s.length≤65536):∀ (n k:Nat) (acc:List Qaa),k≤s.length→s.length-k<n→acc.length≤k →
  Qgp s acc k=some (match tokI s n k acc with | .inl y =>.inl (y.1,(y.2:Int)) | .inr p =>.inr (p:Int))
 | 0,k,acc,h1,h2,_=>by omega
 | n+1,k,acc,h1,h2,h3=>by
  have hb:=Qtu (s.drop k);rw[List.length_drop] at hb;rw[Qgp,rBl s hs k h1,Qac,tokI];rcases Nat.lt_or_ge (k+blN (s.drop k)) s.length with hlt | hge
  ·have en:(((k+blN (s.drop k):Nat):Int)==(s.length:Int))=false:=beq_eq_false_iff_ne.2 (by omega);rw[en,if_neg (show ¬ (false=true) by decide)];by_cases h2' : two 125 125 (s.drop (k+blN (s.drop k)))=true
   ·rw[Qamg s _ hs h2', Qac,if_pos h2'];simp only[Bool.not_true];rw[if_neg (show ¬ (false=true) by decide),Qin (by simp; omega) (by simp; omega),Qac];rfl
   ·have hr:=rOne s _ hlt hs (by simpa using h2');rw[if_neg h2'];cases ho:Qwq (s.drop (k+blN (s.drop k))) with
    | none =>
     rw[ho] at hr;obtain⟨t,ht⟩:=hr;rw[ht,Qac]; rfl
    | some o =>
     rw[ho] at hr;obtain⟨o1,o2⟩:=Qrr ho;rw[List.length_drop] at o2;have hk3:((putT o.1 o.2.1 o.2.2.1 (k+blN (s.drop k)) o.2.2.2).Kind==3)=false:=beq_eq_false_iff_ne.2 (Qwr ho).2;simp only at hr;rw[hr,Qac];simp only[Bool.not_true];rw[if_neg (show ¬ (false=true) by decide),Qin (by simp; omega) (by simp; omega),Qac,hk3,if_neg (show ¬ (false=true) by decide)];exact Qajn s hs n _ _ (by omega) (by omega) (by simp; omega)
  ·have en:(((k+blN (s.drop k):Nat):Int)==(s.length:Int))=true:=beq_iff_eq.2 (by omega);rw[en,if_pos rfl,List.drop_eq_nil_of_le hge];rfl
theorem Qabx(s:List UInt8)(k:Nat)(acc:List Qaa):(litT s k acc).length≤acc.length+fnd 123 123 (s.drop k):=by
 unfold litT;split
 ·simp; omega
 ·omega
theorem Qaga(s:List UInt8)(hs:s.length≤65536):∀ (n k:Nat) (acc:List Qaa),k≤s.length→s.length-k<n→acc.length≤k→Qdh s ((k:Int),acc)=some (tokO s n k acc)
 | 0,k,acc,h1,h2,_=>by omega
 | n+1,k,acc,h1,h2,h3=>by
  have hf:=Qxh 123 123 (s.drop k);rw[List.length_drop] at hf;have hll:=Qabx s k acc;have eo:(if decide ((if fnd 123 123 (s.drop k)<s.length-k then(fnd 123 123 (s.drop k):Int) else -1)<0)=true then some (wr ((s.length:Int)-(k:Int))) else some (if fnd 123 123 (s.drop k)<s.length-k then(fnd 123 123 (s.drop k):Int) else -1):Option Int)=some ((fnd 123 123 (s.drop k):Nat):Int):=by
   by_cases h:fnd 123 123 (s.drop k)<s.length-k
   ·rw[if_pos h,decide_eq_false (by omega),if_neg (by decide)]
   ·rw[if_neg h,decide_eq_true (by decide),if_pos rfl,Qd0 (by omega) (by omega)];congr 1;omega
  have el:(if decide (((fnd 123 123 (s.drop k):Nat):Int)>0)=true then(cutL s k (wr ((k:Int)+((fnd 123 123 (s.drop k):Nat):Int)))>>=fun x6=>Qa3 1 x6 0 ((fnd 123 123 (s.drop k):Nat):Int) s k acc>>=fun x7=>some (x7.1,x7.2)) else some ((k:Int),acc):Option (Int×List Qaa))=some (((k+fnd 123 123 (s.drop k):Nat):Int),litT s k acc):=by
   have ew:wr ((k:Int)+((fnd 123 123 (s.drop k):Nat):Int))=((k+fnd 123 123 (s.drop k):Nat):Int):=by rw[Qd0 (by omega) (by omega)]; rfl
   unfold litT;by_cases h:0<fnd 123 123 (s.drop k)
   ·rw[decide_eq_true (by omega),if_pos rfl,ew,cutN (by omega),Qac,put2 (by omega) (by omega) (by omega),Qac,if_pos h]
   ·rw[decide_eq_false (by omega),if_neg (by decide),if_neg h];congr 2;omega
  rw[Qdh];simp only;rw[cutE s k h1,Qac,idxD 123 123 s k hs,Qac,eo,Qac,el,Qac,tokO];simp only;by_cases hlt:fnd 123 123 (s.drop k)<s.length-k
  ·have hf2:=fnd2 s k hlt;have en:(((k+fnd 123 123 (s.drop k):Nat):Int)==(s.length:Int))=false:=beq_eq_false_iff_ne.2 (by omega);obtain⟨g1,g2⟩:=Q5a s (k+fnd 123 123 (s.drop k)) hf2;have hp:Qa3 2 [] 0 2 s ((k+fnd 123 123 (s.drop k):Nat):Int) (litT s k acc)=some (((k+fnd 123 123 (s.drop k)+2:Nat):Int),litT s k acc++[putT 2 [] 0 (k+fnd 123 123 (s.drop k)) 2]):=put2 (m:=2) (by omega) (by omega) (by omega);have hb:=Qtu (s.drop (k+fnd 123 123 (s.drop k)+2));rw[List.length_drop] at hb;rw[en,if_neg (show ¬ (false=true) by decide),if_pos hlt,hp,Qac];simp only;rw[lBl s _ hf2 hs,Qac,Qann 35 s _ (by omega) hs,Qac];by_cases h35:oneB 35 (s.drop (k+fnd 123 123 (s.drop k)+2+blN (s.drop (k+fnd 123 123 (s.drop k)+2))))=true
   ·have hf3:=Qxh 125 125 (s.drop (k+fnd 123 123 (s.drop k)+2+blN (s.drop (k+fnd 123 123 (s.drop k)+2))));rw[List.length_drop] at hf3;have eK:Qs6 s (k+fnd 123 123 (s.drop k))=k+fnd 123 123 (s.drop k)+2+blN (s.drop (k+fnd 123 123 (s.drop k)+2))+fnd 125 125 (s.drop (k+fnd 123 123 (s.drop k)+2+blN (s.drop (k+fnd 123 123 (s.drop k)+2)))):=by
     unfold Qs6; rw[if_pos h35]
    rw[if_pos h35,cutE s _ (by omega),Qac,idxD 125 125 s _ hs,Qac];by_cases hx:fnd 125 125 (s.drop (k+fnd 123 123 (s.drop k)+2+blN (s.drop (k+fnd 123 123 (s.drop k)+2))))<s.length-(k+fnd 123 123 (s.drop k)+2+blN (s.drop (k+fnd 123 123 (s.drop k)+2)))
    ·rw[if_pos hx,decide_eq_false (by omega),if_neg (show ¬ (false=true) by decide),Qac];simp only;rw[Qd0 (by omega) (by omega),← Int.natCast_add,← eK,Qaf9 s hs (s.length+1) _ _ (by omega) (by omega) (by simp only[List.length_append,List.length_cons,List.length_nil]; omega)];cases hI:tokI s (s.length+1) (Qs6 s (k+fnd 123 123 (s.drop k))) (litT s k acc++[putT 2 [] 0 (k+fnd 123 123 (s.drop k)) 2]) with
     | inr p=>rfl
     | inl y =>
      obtain⟨y1,y2,y3⟩:=Q0m s _ _ _ _ g2 hI;simp only[List.length_append,List.length_cons,List.length_nil] at y3;have q2:s.length-y.2<n:=by omega
      have q3:y.1.length≤y.2:=by omega
      exact Qaga s hs n _ _ y2 q2 q3
    ·rw[if_neg hx,decide_eq_true (by decide),if_pos rfl,Qac];have e2:Qs6 s (k+fnd 123 123 (s.drop k))=s.length:=by omega
     have eb:s.length+blN (s.drop s.length)=s.length:=by rw[List.drop_length]; rfl
     rw[e2,tokI,eb,List.drop_length];rfl
   ·have eK:Qs6 s (k+fnd 123 123 (s.drop k))=k+fnd 123 123 (s.drop k)+2+blN (s.drop (k+fnd 123 123 (s.drop k)+2)):=by
     unfold Qs6; rw[if_neg h35]; rfl
    rw[if_neg h35,Qac];simp only;rw[← eK,Qaf9 s hs (s.length+1) _ _ (by omega) (by omega) (by simp only[List.length_append,List.length_cons,List.length_nil]; omega)];cases hI:tokI s (s.length+1) (Qs6 s (k+fnd 123 123 (s.drop k))) (litT s k acc++[putT 2 [] 0 (k+fnd 123 123 (s.drop k)) 2]) with
    | inr p=>rfl
    | inl y =>
     obtain⟨y1,y2,y3⟩:=Q0m s _ _ _ _ g2 hI;simp only[List.length_append,List.length_cons,List.length_nil] at y3;have q2:s.length-y.2<n:=by omega
     have q3:y.1.length≤y.2:=by omega
     exact Qaga s hs n _ _ y2 q2 q3
  ·have en:(((k+fnd 123 123 (s.drop k):Nat):Int)==(s.length:Int))=true:=beq_iff_eq.2 (by omega);rw[en,if_pos rfl,if_neg hlt]
theorem Qajo(s:List UInt8)(hs:s.length≤65536):∀ (n k:Nat) (acc:List Qaa),k≤s.length→s.length-k<n→acc.length≤k→∃ o,Qe6 s acc k=some o∧(match o with | .inl l=>tokO s n k acc=(l,0,0) | .inr y=>tokO s n k acc=y)
 | 0,k,acc,h1,h2,_=>by omega
 | n+1,k,acc,h1,h2,h3=>by
  have hf:=Qxh 123 123 (s.drop k);rw[List.length_drop] at hf;have hll:=Qabx s k acc;rcases Nat.lt_or_ge k s.length with hk | hk
  ·have el:(if decide (((k+fnd 123 123 (s.drop k):Nat):Int)>(k:Int))=true then(cutL s k ((k+fnd 123 123 (s.drop k):Nat):Int)>>=fun x6=>appL 48 acc [(Qaa.mk 1 x6 0 (k:Int) ((k+fnd 123 123 (s.drop k):Nat):Int))]>>=fun x7=>some x7) else some acc:Option (List Qaa))=some (litT s k acc):=by
    unfold litT;by_cases h:0<fnd 123 123 (s.drop k)
    ·rw[decide_eq_true (by omega),if_pos rfl,cutN (by omega),Qac,Qin (by simp; omega) (by simp; omega),Qac,if_pos h];rfl
    ·rw[decide_eq_false (by omega),if_neg (by decide),if_neg h]
   rw[Qe6,ltI,decide_eq_true hk,if_pos rfl,rFnd 123 123 s hs k h1,Qac,el,Qac,tokO];by_cases hlt:fnd 123 123 (s.drop k)<s.length-k
   ·have hf2:=fnd2 s k hlt;have en:(((k+fnd 123 123 (s.drop k):Nat):Int)==(s.length:Int))=false:=beq_eq_false_iff_ne.2 (by omega);obtain⟨g1,g2⟩:=Q5a s (k+fnd 123 123 (s.drop k)) hf2;have ew:wr (((k+fnd 123 123 (s.drop k):Nat):Int)+2)=((k+fnd 123 123 (s.drop k)+2:Nat):Int):=by rw[Qd0 (by omega) (by omega)]; rfl
    have hb:=Qtu (s.drop (k+fnd 123 123 (s.drop k)+2));rw[List.length_drop] at hb;have eK:(Qcs s [35] ((k+fnd 123 123 (s.drop k)+2+blN (s.drop (k+fnd 123 123 (s.drop k)+2)):Nat):Int)>>=fun x11=>if x11=true then(Qo7 s [125,125] ((k+fnd 123 123 (s.drop k)+2+blN (s.drop (k+fnd 123 123 (s.drop k)+2)):Nat):Int)>>=fun x12=>some x12) else some ((k+fnd 123 123 (s.drop k)+2+blN (s.drop (k+fnd 123 123 (s.drop k)+2)):Nat):Int))=some ((Qs6 s (k+fnd 123 123 (s.drop k)):Nat):Int):=by
     rw[Qanl 35 s _ (by omega) hs,Qac];unfold Qs6;split
     ·rw[rFnd 125 125 s hs _ (by omega),Qac]
     ·rfl
    rw[en,if_neg (show ¬ (false=true) by decide),if_pos hlt,ew,Qin (by simp; omega) (by simp; omega),Qac,rBl s hs _ hf2,Qac,eK,Qac];have ep:(Qaa.mk 2 [] 0 ((k+fnd 123 123 (s.drop k):Nat):Int) ((k+fnd 123 123 (s.drop k)+2:Nat):Int))=putT 2 [] 0 (k+fnd 123 123 (s.drop k)) 2:=rfl;rw[ep,Qajn s hs (s.length+1) _ _ g2 (by omega) (by simp only[List.length_append,List.length_cons,List.length_nil]; omega),Qac];cases hI:tokI s (s.length+1) (Qs6 s (k+fnd 123 123 (s.drop k))) (litT s k acc++[putT 2 [] 0 (k+fnd 123 123 (s.drop k)) 2]) with
    | inr p=>exact⟨_,rfl,rfl⟩
    | inl y =>
     obtain⟨y1,y2,y3⟩:=Q0m s _ _ _ _ g2 hI;simp only[List.length_append,List.length_cons,List.length_nil] at y3;have q2:s.length-y.2<n:=by omega
     have q3:y.1.length≤y.2:=by omega
     exact Qajo s hs n _ _ y2 q2 q3
   ·have en:(((k+fnd 123 123 (s.drop k):Nat):Int)==(s.length:Int))=true:=beq_iff_eq.2 (by omega);rw[en,if_pos rfl,if_neg hlt];exact⟨_,rfl,rfl⟩
  ·have ek:k=s.length:=by omega
   rw[Qe6,ltI,decide_eq_false (by omega),if_neg (by decide)];refine⟨_,rfl,?_⟩;have e0:fnd 123 123 (s.drop k)=0:=by rw[List.drop_eq_nil_of_le hk]; rfl
   simp only;rw[tokO,e0,if_neg (by omega)];unfold litT;rw[e0,if_neg (by omega)]
def Qcc(s:List UInt8):List Qaa×Int×Int:=if 65536<s.length then([],0,6) else tokO s (s.length+1) 0 []
theorem Qaky(s:List UInt8):Qod s=some (Qcc s):=by
 rw[Qod,Qcc];by_cases h:65536<s.length
 ·rw[decide_eq_true (by omega),if_pos rfl,if_pos h]; rfl
 ·rw[decide_eq_false (by omega),if_neg (by decide),if_neg h];have:=Qaga s (by omega) (s.length+1) 0 [] (by omega) (by omega) (by simp);rw[show((0:Nat):Int)=0 from rfl] at this;rw[this]; rfl
theorem Qakz(s:List UInt8):Qoa s=some (Qcc s):=by
 rw[Qoa,Qcc];by_cases h:65536<s.length
 ·rw[decide_eq_true (by omega),if_pos rfl,if_pos h]
 ·rw[decide_eq_false (by omega),if_neg (by decide),if_neg h];obtain⟨o,o1,o2⟩:=Qajo s (by omega) (s.length+1) 0 [] (by omega) (by omega) (by simp);rw[show((0:Nat):Int)=0 from rfl] at o1;rw[o1,Qac];cases o with
  | inl l=>simp only at o2 ⊢; rw[o2]
  | inr y=>simp only at o2 ⊢; rw[o2]
theorem Q5b:∀ (n:Nat) (l:List UInt8) (q:List UInt8×Nat),quoP n l=some q→q.1.length≤q.2
 | 0,l,q,h=>by simp[quoP] at h
 | n+1,[],q,h=>by simp[quoP] at h
 | n+1,c::r,q,h=>by
  rw[Qeb] at h;split at h
  ·cases h; simp
  split at h
  ·cases r with
   | nil=>cases h
   | cons d r =>
    rw[escR] at h;split at h
    ·obtain⟨q', h1,rfl⟩:=Option.map_eq_some_iff.1 h;have:=Q5b n r q' h1;simp only[List.length_cons]; omega
    ·cases h
  split at h
  ·cases h
  ·obtain⟨q', h1,rfl⟩:=Option.map_eq_some_iff.1 h;have:=Q5b n _ q' h1;simp only[List.length_append,List.length_take]; omega
theorem Q78{l:List UInt8}{o:Int×List UInt8×Int×Nat}(h:Qwq l=some o):o.2.1.length≤o.2.2.2:=by
 cases l with
 | nil=>cases h
 | cons c r =>
  rw[Qie] at h;split at h
  ·cases h; simp
  ·split at h
   ·obtain⟨q,h1,rfl⟩:=Option.map_eq_some_iff.1 h;have:=Q5b _ _ _ h1;simp only; omega
   ·split at h
    ·split at h
     ·cases h; simp only[List.length_take]; omega
     ·cases h
    ·split at h
     ·split at h
      ·cases h; simp
      ·cases h
     ·cases h
def Fit(l:List Qaa)(b:Nat):Prop:=l.length≤b∧tsum l≤b
theorem Fit.snoc{l:List Qaa}{b:Nat}(h:Fit l b)(t:Qaa){m:Nat}(h1:1≤m)(h2:t.Text.length≤m):Fit (l++[t]) (b+m):=by
 refine⟨by have:=h.1; simp; omega,?_⟩;have:=h.2;unfold tsum at this ⊢;simp; omega
theorem Fit.mono{l:List Qaa}{b b' : Nat}(h:Fit l b)(hb:b≤b'):Fit l b' := ⟨by have:=h.1; omega,by have:=h.2; omega⟩
theorem Qaby(s:List UInt8):∀ (n k:Nat) (acc:List Qaa) (y:List Qaa×Nat),k≤s.length→Fit acc k→tokI s n k acc = .inl y→Fit y.1 y.2
 | 0,k,acc,y,_,_,h=>by cases h
 | n+1,k,acc,y,hk,ha,h=>by
  have hb:=Qtu (s.drop k);rw[List.length_drop] at hb;rw[tokI] at h;split at h
  ·cases h;exact(ha.mono (show k≤k+blN (s.drop k) by omega)).snoc _ (by omega) (by simp[putT])
  ·split at h
   ·cases h
   ·rename_i o ho;obtain⟨o1,o2⟩:=Qrr ho;rw[List.length_drop] at o2;exact Qaby s n _ _ y (by omega) ((ha.mono (show k≤k+blN (s.drop k) by omega)).snoc _ o1 (Q78 ho)) h
theorem Qabz(s:List UInt8)(k:Nat)(acc:List Qaa)(h:Fit acc k):Fit (litT s k acc) (k+fnd 123 123 (s.drop k)):=by
 unfold litT;split
 ·exact h.snoc _ (by omega) (by simp[putT]; omega)
 ·exact h.mono (by omega)
theorem Q5c(s:List UInt8):∀ (n k:Nat) (acc:List Qaa),k≤s.length→Fit acc k→Fit (tokO s n k acc).1 s.length
 | 0,k,acc,_,_=>⟨by simp[tokO],by simp[tokO,tsum]⟩
 | n+1,k,acc,hk,ha=>by
  have hf:=Qxh 123 123 (s.drop k);rw[List.length_drop] at hf;rw[tokO];split
  ·rename_i hlt;have h2:=fnd2 s k hlt;obtain⟨p1,p2⟩:=Q5a s (k+fnd 123 123 (s.drop k)) h2;have hl:=((Qabz s k acc ha).snoc (putT 2 [] 0 (k+fnd 123 123 (s.drop k)) 2) (m:=2) (by omega) (by simp[putT])).mono p1;split
   ·rename_i y hy;obtain⟨-,g2,-⟩:=Q0m s _ _ _ y p2 hy;exact Q5c s n y.2 y.1 g2 (Qaby s _ _ _ y p2 hl hy)
   ·exact⟨by simp,by simp[tsum]⟩
  ·exact(Qabz s k acc ha).mono (by omega)
theorem Qsj(s:List UInt8):Fit (Qcc s).1 65536:=by
 unfold Qcc;split
 ·exact⟨by simp,by simp[tsum]⟩
 ·exact(Q5c s _ 0 [] (by omega) ⟨by simp,by simp[tsum]⟩).mono (by omega)
theorem Q0n(s:List UInt8):Toks (Qcc s).1:=by
 obtain⟨h1,h2⟩:=Qsj s;exact⟨by omega,by unfold tsum at h2; omega⟩
theorem Qar{α β : Type}{r:Rs α}{f : α → List Qaa→Rs β}{y : β}{l' : List Qaa}(h:r.bind f = .ok y l'):∃ a l1,r = .ok a l1∧f a l1 = .ok y l' := by
 cases r with
 | ok a l1=>exact⟨a,l1,rfl,h⟩
 | bad l1=>cases h
theorem Qhg{k:Int}(hk:k≠0){l l' : List Qaa}{t:Qaa}(h:want k l = .ok t l'):l'.length+1=l.length∧t=hd l∧l' = l.tail∧kd l=k:=by
 unfold want at h;split at h
 ·rename_i h1;have:=Qcl (Qdj hk h1);have:=List.length_pos_iff.2 (Qdj hk h1);cases h;exact⟨by rw[List.length_tail]; omega,rfl,rfl,h1⟩
 ·cases h
theorem Q79{w:List UInt8}{l l' : List Qaa}{u:Unit}(h:Qo9 w l = .ok u l'):l'.length+1=l.length:=by
 unfold Qo9 at h;split at h
 ·rename_i h1;have:=List.length_pos_iff.2 (Qea h1);cases h;rw[List.length_tail]; omega
 ·cases h
theorem Qvt{l l' : List Qaa}{s:List UInt8}(h:Qg4 l = .ok s l'):l'.length+1=l.length:=by
 unfold Qg4 at h;split at h
 ·rename_i h1;have:=List.length_pos_iff.2 (Qdj (by decide) h1.1);cases h;rw[List.length_tail]; omega
 ·cases h
theorem Qvu{w:List UInt8}{l l' : List Qaa}{u:Unit}(h:endW w l = .ok u l'):l'.length+3=l.length:=by
 obtain⟨a,l1,h1,h⟩:=Qar h;obtain⟨b,l2,h2,h⟩:=Qar h;obtain⟨c,l3,h3,h⟩:=Qar h;cases h;have:=(Qhg (by decide) h1).1;have:=Q79 h2;have:=(Qhg (by decide) h3).1;omega
def NE(E:List Qaa→Rs Qab):Prop:=∀ l x l', E l = .ok x l' → nn x+l'.length≤l.length
theorem Qws(k:Int)(s t:List UInt8)(n:Int):nn ⟨k,s,t,n,[],[],[]⟩=1:=by simp[Qf4,nns]
theorem Qec{l:List Qaa}(h:l≠[]):l.tail.length+1=l.length:=by
 have:=List.length_pos_iff.2 h;rw[List.length_tail]; omega
theorem Qagb{E:List Qaa→Rs Qab}(hE:NE E){l l' : List Qaa}{xs:List Qab}(h:Qlk E l = .ok xs l'):nns xs+l'.length+1≤l.length:=by
 unfold Qlk at h;split at h
 ·rename_i h9;have:=Qec (Qdj (by decide) h9);cases h;simp only[nns]; omega
 ·obtain⟨x1,l1,e1,h⟩:=Qar h;have:=hE _ _ _ e1;split at h
  ·rename_i h10;have:=Qec (Qdj (by decide) h10);obtain⟨x2,l2,e2,h⟩:=Qar h;have:=hE _ _ _ e2;split at h
   ·rename_i h11;have:=Qec (Qdj (by decide) h11);obtain⟨x3,l3,e3,h⟩:=Qar h;have:=hE _ _ _ e3;obtain⟨u,l4,e4,h⟩:=Qar h;have:=(Qhg (by decide) e4).1;cases h;simp only[nns]; omega
   ·obtain⟨u,l4,e4,h⟩:=Qar h;have:=(Qhg (by decide) e4).1;cases h;simp only[nns]; omega
  ·obtain⟨u,l4,e4,h⟩:=Qar h;have:=(Qhg (by decide) e4).1;cases h;simp only[nns]; omega
theorem Qadl{E:List Qaa→Rs Qab}(hE:NE E):NE (Qd9 E):=fun l x l' h=>by
 unfold Qd9 at h;split at h
 ·rename_i h1;have:=Qec (Qdj (by decide) h1);cases h; rw[Qws]; omega
 split at h
 ·rename_i h1;have:=Qec (Qdj (by decide) h1);cases h; rw[Qws]; omega
 split at h
 ·rename_i h1;have:=Qec (Qea h1);cases h; rw[Qws]; omega
 split at h
 ·rename_i h1;have:=Qec (Qea h1);cases h; rw[Qws]; omega
 split at h
 ·rename_i h1;have:=Qec (Qea h1);obtain⟨a,l1,e1,h⟩:=Qar h;have:=(Qhg (by decide) e1).1;split at h
  ·obtain⟨b,l2,e2,h⟩:=Qar h;have e9:=(Qhg (by decide) e2).1;have e8:=List.length_tail (l:=l1);cases h; rw[Qws];omega
  ·cases h
 ·obtain⟨s,l1,e1,h⟩:=Qar h;have:=Qvt e1;split at h
  ·rename_i h1;have:=Qec (Qdj (by decide) h1);obtain⟨xs,l2,e2,h⟩:=Qar h;have:=Qagb hE e2;cases h;rw[Qf4]; simp only[nns]; omega
  ·cases h; rw[Qws]; omega
theorem Q8a:∀ (n:Nat) (x:Qab) (l:List Qaa) (y:Qab) (l' : List Qaa),Qk6 n x l = .ok y l' → nn y+l'.length≤nn x+l.length
 | 0,x,l,y,l', h=>by cases h; omega
 | n+1,x,l,y,l', h=>by
  unfold Qk6 at h;split at h
  ·rename_i h1;have:=Qec (Qdj (by decide) h1);obtain⟨t,l1,e1,h⟩:=Qar h;have:=(Qhg (by decide) e1).1;have:=Q8a n _ _ _ _ h;have e:nn ⟨5,t.Text,[],0,[x],[],[]⟩=1+nn x:=by rw[Qf4]; simp[nns]
   rw[e] at this;omega
  ·cases h; omega
theorem Q8b:∀ f,NE (Qll f)
 | 0=>fun l x l' h=>by cases h
 | f+1=>fun l x l' h=>by
  obtain⟨y,l1,e1,h⟩:=Qar h;have:=Qadl (Q8b f) _ _ _ e1;have:=Q8a _ _ _ _ _ h;omega
theorem Qmm{l l' : List Qaa}{x:Qab}(h:Qdi l = .ok x l'):nn x+l'.length+1≤l.length:=by
 obtain⟨y,l1,e1,h⟩:=Qar h;obtain⟨u,l2,e2,h⟩:=Qar h;have:=Q8b _ _ _ _ e1;have:=(Qhg (by decide) e2).1;cases h; omega
theorem Qait{B:Bool→Bool→List Qaa→Rs (List Qab)}(hB:∀ i o l y l', B i o l = .ok y l' → nns y+l'.length≤l.length){l l' : List Qaa}{x:Qab}(h:actR B l = .ok x l'):nn x+l'.length≤l.length:=by
 unfold actR at h;split at h
 ·rename_i h1;have:=Qec (Qea h1);obtain⟨a,l1,e1,h⟩:=Qar h;obtain⟨b,l2,e2,h⟩:=Qar h;have:=Qmm e1;have:=hB _ _ _ _ _ e2;split at h
  ·obtain⟨c,l3,e3,h⟩:=Qar h;obtain⟨d,l4,e4,h⟩:=Qar h;obtain⟨e,l5,e5,h⟩:=Qar h;have:=Qvu e3;have:=hB _ _ _ _ _ e4;have:=Qvu e5;cases h;rw[Qf4]; simp only[nns]; omega
  ·obtain⟨e,l5,e5,h⟩:=Qar h;have:=Qvu e5;cases h;rw[Qf4]; simp only[nns]; omega
 split at h
 ·rename_i h1;have:=Qec (Qea h1);obtain⟨a,l1,e1,h⟩:=Qar h;obtain⟨b,l2,e2,h⟩:=Qar h;obtain⟨c,l3,e3,h⟩:=Qar h;obtain⟨d,l4,e4,h⟩:=Qar h;obtain⟨e,l5,e5,h⟩:=Qar h;have:=Qvt e1;have:=Q79 e2;have:=Qmm e3;have:=hB _ _ _ _ _ e4;have:=Qvu e5;cases h;rw[Qf4]; simp only[nns]; omega
 split at h
 ·rename_i h1;have:=Qec (Qea h1);obtain⟨a,l1,e1,h⟩:=Qar h;obtain⟨b,l2,e2,h⟩:=Qar h;obtain⟨c,l3,e3,h⟩:=Qar h;obtain⟨d,l4,e4,h⟩:=Qar h;obtain⟨e,l5,e5,h⟩:=Qar h;have:=Qvt e1;have:=(Qhg (by decide) e2).1;have:=Qmm e3;have:=hB _ _ _ _ _ e4;have:=Qvu e5;cases h;rw[Qf4]; simp only[nns]; omega
 split at h
 ·rename_i h1;have:=Qec (Qea h1);obtain⟨a,l1,e1,h⟩:=Qar h;obtain⟨b,l2,e2,h⟩:=Qar h;have:=Qvt e1;have:=Qmm e2;cases h;rw[Qf4]; simp only[nns]; omega
 ·obtain⟨a,l1,e1,h⟩:=Qar h;have:=Qmm e1;cases h;rw[Qf4]; simp only[nns]; omega
theorem Qagc:∀ (v:List Qab) (k:Nat) (x y:Qab),v[k]? = some x→nn y=nn x→nns (v.set k y)=nns v
 | [],k,x,y,h,_=>by simp at h
 | z::r,0,x,y,h,e=>by simp at h; subst h; simp[nns,e]
 | z::r,k+1,x,y,h,e=>by
  simp only[List.getElem?_cons_succ] at h;simp only[List.set_cons_succ,nns,Qagc r k x y h e]
theorem Qadm(v:List Qab)(s:List UInt8):nns (Qjm v s)≤nns v+1:=by
 unfold Qjm;split
 ·rename_i x hx;split
  ·rw[Qagc v _ x]
   ·omega
   ·rw[← List.getLast?_eq_getElem?]; exact hx
   ·rw[Qf4,Qf4]
  ·rw[Q43]; simp[nns,Qf4]
 ·rw[Q43]; simp[nns,Qf4]
theorem Qof:∀ (f:Nat) (i o:Bool) (out:List Qab) (l:List Qaa) (y:List Qab) (l' : List Qaa),Qd3 f i o out l = .ok y l' → nns y+l'.length≤nns out+l.length
 | 0,i,o,out,l,y,l', h=>by cases h
 | f+1,i,o,out,l,y,l', h=>by
  unfold Qd3 at h;split at h
  ·cases h; omega
  split at h
  ·rename_i hne h1;have:=Qof f _ _ _ _ _ _ h;have:=Qadm out (hd l).Text;have:=Qec hne;omega
  split at h
  ·cases h; omega
  split at h
  ·rename_i h2;have:=Qec (Qdj (by decide) h2);split at h
   ·rename_i h3;have:=Qof f _ _ _ _ _ _ h;have:=Qec (Qdj (by decide) h3);omega
   ·obtain⟨x,l1,e1,h⟩:=Qar h;have:=Qait (fun i o l y l' e=>by have:=Qof f i o [] l y l' e; simpa [nns] using this) e1;have:=Qof f _ _ _ _ _ _ h;rw[Q43] at this;simp only[nns] at this;omega
  ·cases h
def Qf3 (s:List UInt8):List Qab×Int×Int :=
 if(Qcc s).2.2=0 then
  match bl20 false false (Qcc s).1 with
  | .bad l=>([],(if l=[] then(s.length:Int) else(hd l).From),7)
  | .ok out _=>if 1024<nns out then([],0,5) else if 12<dps out then([],0,8) else(out,0,0)
 else([],(Qcc s).2.1,(Qcc s).2.2)
theorem Qaiu{L l:List Qaa}(hL:Toks L)(h:l <:+ L)(s:List UInt8):Qd8 s L (pos L l)=some (if l=[] then(s.length:Int) else(hd l).From):=by
 unfold Qd8;by_cases hne:l=[]
 ·subst hne; simp[Qun]
 ·obtain⟨h1,h2,-⟩:=Qro h hne;rw[h1,h2,if_neg hne]; rfl
theorem Qagd(L:List Qaa):pos L L=0:=by simp[pos]
theorem Qage(s:List UInt8):Qfe s=some (Qf3 s):=by
 unfold Qfe Qf3;rw[Qaky s,Qac];by_cases h0:(Qcc s).2.2=0
 ·have e0:((Qcc s).2.2 != 0)=false:=by simp[h0]
  have hL:=Q0n s;have hb:=pBlk hL false false (List.suffix_refl (Qcc s).1);rw[Qagd] at hb;have hs:=Qg5 ((Qcc s).1.length+1) false false [] (Qcc s).1;have ht:=Qj5 ((Qcc s).1.length+1) false false [] (Qcc s).1;simp only[e0,Bool.false_eq_true,if_false,if_pos h0,hb,Qac];cases hx:bl20 false false (Qcc s).1 with
  | bad l =>
   unfold bl20 at hx;rw[hx] at hs;simp only[cBlk,Qaiu hL hs,Qac]
  | ok out l =>
   unfold bl20 at hx;rw[hx] at hs ht;have hn:l=[]:=by simpa [Qadj] using ht
   have hln:=Qof _ _ _ _ _ _ _ hx;have hf:=(Qsj s).1;simp only[nns] at hln;simp only[cBlk,if_pos hn,Bool.false_eq_true,if_false,Qalu out (by omega),Qac,Qam8 out (by omega)];by_cases h1:1024<nns out
   ·rw[if_pos h1,if_pos (by simp; omega)]
   ·rw[if_neg h1,if_neg (by simp; omega)];by_cases h2:12<dps out
    ·rw[if_pos h2,if_pos (by simp; omega)]
    ·rw[if_neg h2,if_neg (by simp; omega)]
 ·have e0:((Qcc s).2.2 != 0)=true:=by simp[h0]
  simp only[e0,if_true,if_neg h0]
theorem Qamh(s:List UInt8):Qrg s=some (Qf3 s):=by
 unfold Qrg Qf3;rw[Qakz s,Qac];by_cases h0:(Qcc s).2.2=0
 ·have e0:((Qcc s).2.2 != 0)=false:=by simp[h0]
  have hL:=Q0n s;have hb:=Qand hL false false (List.suffix_refl (Qcc s).1);rw[Qagd] at hb;have hs:=Qg5 ((Qcc s).1.length+1) false false [] (Qcc s).1;have ht:=Qj5 ((Qcc s).1.length+1) false false [] (Qcc s).1;simp only[e0,Bool.false_eq_true,if_false,if_pos h0];cases hx:bl20 false false (Qcc s).1 with
  | bad l =>
   rw[hx] at hb;unfold bl20 at hx;rw[hx] at hs;obtain⟨x,hb⟩:=hb;simp only[hb,Qac,if_true];by_cases hne:l=[]
   ·subst hne;have e:decide (pos (Qcc s).1 []<((Qcc s).1.length:Int))=false:=by rw[Qun]; simp
    simp[e]
   ·obtain⟨h1,h2,h3⟩:=Qro hs hne;simp only[h3,if_true,h2,Qac,if_neg hne]
  | ok out l =>
   rw[hx] at hb;unfold bl20 at hx;have hb:Qav false false (Qcc s).1 0 false=some (out,pos (Qcc s).1 l,false):=hb;have hln:=Qof _ _ _ _ _ _ _ hx;have hf:=(Qsj s).1;simp only[nns] at hln;obtain⟨r1,r2⟩:=rDC 900000000 out (by omega) (by omega);simp only[hb,Qac,Bool.false_eq_true,if_false,r1,r2];by_cases h1:1024<nns out
   ·rw[if_pos h1,if_pos (by simp; omega)]
   ·rw[if_neg h1,if_neg (by simp; omega)];by_cases h2:12<dps out
    ·rw[if_pos h2,if_pos (by simp; omega)]
    ·rw[if_neg h2,if_neg (by simp; omega)]
 ·have e0:((Qcc s).2.2 != 0)=true:=by simp[h0]
  simp only[e0,if_true,if_neg h0]
def tz(t:Qaa):Qaa:=⟨t.Kind,t.Text,t.N,0,0⟩
abbrev zs(l:List Qaa):List Qaa:=l.map tz
def Rs.z{α : Type}:Rs α → Rs α
 | .ok x l =>.ok x (zs l)
 | .bad l =>.bad (zs l)
theorem hd_z(l:List Qaa):hd (zs l)=tz (hd l):=by cases l<;>rfl
theorem kd_z(l:List Qaa):kd (zs l)=kd l:=by cases l<;>rfl
theorem Qne(l:List Qaa):(zs l).tail=zs l.tail:=by cases l<;>rfl
theorem Q5d(w:List UInt8)(l:List Qaa):isW w (zs l)=isW w l:=by cases l<;>rfl
theorem Qaag(w:List UInt8)(l:List Qaa):Qde w (zs l)=Qde w l:=by
 unfold Qde;rw[kd_z,Qne,Q5d]
theorem Qet{α β : Type}{r r' : Rs α}{f f' : α → List Qaa→Rs β}(h:r' = r.z)(hf:∀ x l,f' x (zs l)=(f x l).z):r'.bind f' = (r.bind f).z:=by
 subst h;cases r with
 | ok x l=>exact hf x l
 | bad l=>rfl
theorem Qtv{β : Type}(k:Int)(l:List Qaa){f f' : Qaa→List Qaa→Rs β}(hf:∀ t l,f' (tz t) (zs l)=(f t l).z):(want k (zs l)).bind f' = ((want k l).bind f).z:=by
 unfold want;rw[kd_z,hd_z,Qne];by_cases h:kd l=k
 ·rw[if_pos h,if_pos h]; exact hf _ _
 ·rw[if_neg h,if_neg h]; rfl
theorem Qagf(w:List UInt8)(l:List Qaa):Qo9 w (zs l)=(Qo9 w l).z:=by
 unfold Qo9;rw[Q5d,Qne];split<;>rfl
theorem Q5e(l:List Qaa):Qg4 (zs l)=(Qg4 l).z:=by
 unfold Qg4;rw[kd_z,hd_z,Qne];by_cases h:kd l=4∧Qfu (hd l).Text=true
 ·rw[if_pos h,if_pos (show kd l=4∧Qfu (tz (hd l)).Text=true from h)]; rfl
 ·rw[if_neg h,if_neg (show ¬ (kd l=4∧Qfu (tz (hd l)).Text=true) from h)]; rfl
theorem Q8c(w:List UInt8)(l:List Qaa):endW w (zs l)=(endW w l).z :=
 Qtv 2 l fun _ l1=>Qet (Qagf w l1) fun _ l2=>Qtv 3 l2 fun _ _=>rfl
theorem Qagg(l:List Qaa):Qk5 (zs l)=(Qk5 l).z:=Qtv 8 l fun _ l1=>by
 rw[kd_z,hd_z,Qne];by_cases h:kd l1=5∧Qd2 (hd l1).Text=true
 ·rw[if_pos h,if_pos (show kd l1=5∧Qd2 (tz (hd l1)).Text=true from h)];exact Qtv 9 _ fun _ _=>rfl
 ·rw[if_neg h,if_neg (show ¬ (kd l1=5∧Qd2 (tz (hd l1)).Text=true) from h)]; rfl
theorem Qpd{α : Type}{c:Prop}[Decidable c]{a b a' b' : Rs α}(h1:a' = a.z)(h2:b' = b.z):(if c then a' else b')=(if c then a else b).z:=by
 split<;>assumption
theorem Qak0{E E' : List Qaa→Rs Qab}(hE:∀ l,E' (zs l)=(E l).z)(l:List Qaa):Qlk E' (zs l)=(Qlk E l).z:=by
 unfold Qlk;rw[kd_z,Qne];refine Qpd rfl (Qet (hE l) fun x1 l1=>?_);rw[kd_z,Qne];refine Qpd (Qet (hE _) fun x2 l2=>?_) (Qtv 9 _ fun _ _=>rfl);rw[kd_z,Qne];exact Qpd (Qet (hE _) fun x3 l3=>Qtv 9 _ fun _ _=>rfl) (Qtv 9 _ fun _ _=>rfl)
theorem Qaiv{E E' : List Qaa→Rs Qab}(hE:∀ l,E' (zs l)=(E l).z)(l:List Qaa):Qd9 E' (zs l)=(Qd9 E l).z:=by
 unfold Qd9;rw[kd_z,Qne,hd_z,Q5d,Q5d,Q5d];refine Qpd rfl (Qpd rfl (Qpd rfl (Qpd rfl (Qpd (Qagg _) (Qet (Q5e l) fun s l1=>?_)))));rw[kd_z,Qne];exact Qpd (Qet (Qak0 hE _) fun _ _=>rfl) rfl
theorem Qagh:∀ (n:Nat) (x:Qab) (l:List Qaa),Qk6 n x (zs l)=(Qk6 n x l).z
 | 0,x,l=>rfl
 | n+1,x,l=>by
  unfold Qk6;rw[kd_z,Qne];exact Qpd (Qtv 4 _ fun t l2=>Qagh n _ l2) rfl
theorem Qagi:∀ (f:Nat) (l:List Qaa),Qll f (zs l)=(Qll f l).z
 | 0,l=>rfl
 | f+1,l=>by
  unfold Qll;refine Qet (Qaiv (Qagi f) l) fun x l1=>?_
  rw[List.length_map];exact Qagh _ x l1
theorem Qamj(l:List Qaa):ex20 (zs l)=(ex20 l).z:=by
 unfold ex20;rw[List.length_map];exact Qagi _ l
theorem Qrs(l:List Qaa):Qdi (zs l)=(Qdi l).z:=Qet (Qamj l) fun x l1=>Qtv 3 l1 fun _ _=>rfl
theorem Qamk{B B' : Bool→Bool→List Qaa→Rs (List Qab)}(hB:∀ i o l,B' i o (zs l)=(B i o l).z)(l:List Qaa):actR B' (zs l)=(actR B l).z:=by
 unfold actR;rw[Q5d,Q5d,Q5d,Q5d,Qne];refine Qpd (Qet (Qrs _) fun x l1=>Qet (hB _ _ _) fun y l2=>?_) (Qpd ?_ (Qpd ?_ (Qpd ?_ (Qet (Qrs _) fun _ _=>rfl))))
 ·rw[Qaag];exact Qpd (Qet (Q8c _ _) fun _ l3=>Qet (hB _ _ _) fun z l4=>Qet (Q8c _ _) fun _ _=>rfl) (Qet (Q8c _ _) fun _ _=>rfl)
 ·exact Qet (Q5e _) fun s l1=>Qet (Qagf _ _) fun _ l2=>Qet (Qrs _) fun x l3=>Qet (hB _ _ _) fun y l4=>Qet (Q8c _ _) fun _ _=>rfl
 ·exact Qet (Q5e _) fun s l1=>Qtv 11 _ fun _ l2=>Qet (Qrs _) fun x l3=>Qet (hB _ _ _) fun y l4=>Qet (Q8c _ _) fun _ _=>rfl
 ·exact Qet (Q5e _) fun s l1=>Qet (Qrs _) fun x l2=>rfl
theorem Qajp{l:List Qaa}:zs l=[]↔l=[]:=by simp
theorem Q0o:∀ (f:Nat) (i o:Bool) (out:List Qab) (l:List Qaa),Qd3 f i o out (zs l)=(Qd3 f i o out l).z
 | 0,_,_,_,l=>rfl
 | f+1,i,o,out,l=>by
  unfold Qd3;rw[kd_z,hd_z,Qne,Qaag,Qaag,kd_z,Qne];by_cases hn:l=[]
  ·rw[if_pos hn,if_pos (Qajp.2 hn)]; rfl
  ·rw[if_neg hn,if_neg (fun h=>hn (Qajp.1 h))];refine Qpd (Q0o f _ _ _ _) (Qpd rfl (Qpd (Qpd (Q0o f _ _ _ _) (Qet (Qamk (fun i o l=>Q0o f i o [] l) _) fun x l2=>Q0o f _ _ _ _)) rfl))
theorem Qaml(i o:Bool)(l:List Qaa):bl20 i o (zs l)=(bl20 i o l).z:=by
 unfold bl20;rw[List.length_map];exact Q0o _ _ _ _ l
theorem Qak1(r:List UInt8):∀ (m:Nat) (t:List UInt8) (n:Nat),t.length≤m→utfF m t=true→t.any (· == 13)=false→(qs t).length<n→quoP n (qs t++34::r)=some (t,(qs t).length+1):=by
 intro m
 induction m with
 | zero =>
  intro t n hm _ _ hn;have:t=[]:=List.eq_nil_of_length_eq_zero (by omega);subst this;obtain⟨n', rfl⟩:∃ n', n=n' + 1:=⟨n-1,by omega⟩;rfl
 | succ m ih =>
  intro t n hm hu h13 hn;obtain⟨n', rfl⟩:∃ n', n=n' + 1:=⟨n-1,by omega⟩;cases t with
  | nil=>rfl
  | cons c t =>
   rw[Qrq m _ (List.cons_ne_nil _ _)] at hu;have hg:¬ ((Qbp (c::t)).1=65533∧(Qbp (c::t)).2=1):=fun q=>by rw[if_pos q] at hu; cases hu
   rw[if_neg hg] at hu;by_cases hc:128≤c.toNat
   ·obtain⟨w,rest,e,e2,hw2,hwb,hv,hloc⟩:=Quo c t hc hg;have hq:qs (c::t)=w++qs rest:=by rw[e,Qama,Qaf7 w hwb]
    have hdr:(c::t).drop (Qbp (c::t)).2=rest:=by
     show(c::t).drop (Qf5 c t).2=rest;rw[e2,e,List.drop_left]
    rw[hdr] at hu;have h13r:rest.any (· == 13)=false:=by
     rw[e,List.any_append,Bool.or_eq_false_iff] at h13; exact h13.2
    cases w with
    | nil=>simp at hw2
    | cons d w =>
     have hdc:d=c:=by rw[List.cons_append] at e; cases e; rfl
     have hlen:=congrArg List.length e;rw[List.length_append] at hlen;rw[hq] at hn ⊢;rw[List.length_append] at hn;have hN:=hloc (qs rest++34::r);have hlw:2≤(d::w).length:=hw2;have ir:=ih rest n' (by simp only[List.length_cons] at hlen hm hlw; omega) hu h13r (by omega);have hN' : Qbp (d::(w++(qs rest++34::r)))=Qf5 c t:=hN;have n34:d≠34:=fun q=>by rw[hdc] at q; subst q; revert hc; decide
     have n92:d≠92:=fun q=>by rw[hdc] at q; subst q; revert hc; decide
     have nb:¬ badR (d::(w++(qs rest++34::r))):=by
      unfold badR;rw[hN'];rintro (h | h | h)
      ·omega
      ·omega
      ·exact hg h
     rw[List.append_assoc];show quoP (n' + 1) (d::(w++(qs rest++34::r)))=_;rw[Qeb,if_neg n34,if_neg n92,if_neg nb,hN', e2];have ed:(d::(w++(qs rest++34::r))).drop (d::w).length=qs rest++34::r:=by
      rw[← List.cons_append,List.drop_left]
     have et:(d::(w++(qs rest++34::r))).take (d::w).length=d::w:=by
      rw[← List.cons_append,List.take_left]
     rw[ed,et,ir,Option.map_some,e,List.length_append,Nat.add_assoc]
   ·have hlt:c.toNat<128:=by omega
    have hn1:∀ r,Qbp (c::r)=(c.toNat,1):=fun r=>by rw[Qbp]; unfold Qf5; rw[if_pos hlt]
    rw[hn1] at hu;simp only[List.drop_succ_cons,List.drop_zero] at hu;have hc13:c≠13:=fun q=>by subst q; simp at h13
    have h13t:t.any (· == 13)=false:=by rw[List.any_cons,Bool.or_eq_false_iff] at h13; exact h13.2
    have hq:qs (c::t)=qb c++qs t:=rfl;rw[List.length_cons] at hm;have esc:∀ d,qb c=[92,d]→escP d=some c→quoP (n' + 1) (qs (c::t)++34::r)=some (c::t,(qs (c::t)).length+1):=fun d hd hE=>by
     rw[hq,hd] at hn ⊢;simp only[List.length_append,List.length_cons,List.length_nil] at hn;show quoP (n' + 1) (92::d::(qs t++34::r))=_;rw[Qeb,if_neg (show ¬ (92:UInt8)=34 by decide),if_pos rfl,escR,hE];simp only;rw[ih t n' (by omega) hu h13t (by omega)];simp only[Option.map_some,List.length_append,List.length_cons,List.length_nil];congr 2;omega
    by_cases a:c=10
    ·exact esc 110 (by subst a; rfl) (by subst a; rfl)
    by_cases b:c=9
    ·exact esc 116 (by subst b; rfl) (by subst b; rfl)
    by_cases d:c=34∨c=92
    ·exact esc c (by unfold qb; rw[if_neg a,if_neg b,if_pos d]) (by rcases d with rfl | rfl<;>rfl)
    ·have e:qb c=[c]:=by unfold qb; rw[if_neg a,if_neg b,if_neg d]
     have hne:∀ x:UInt8,c≠x→c.toNat≠x.toNat:=fun x hx q=>hx (UInt8.toNat_inj.1 q)
     rw[hq,e] at hn ⊢;simp only[List.length_append,List.length_cons,List.length_nil] at hn;show quoP (n' + 1) (c::(qs t++34::r))=_;have nb:¬ badR (c::(qs t++34::r)):=by
      unfold badR;rw[hn1];rintro (h | h | h)
      ·exact hne 10 a h
      ·exact hne 13 hc13 h
      ·have:=h.1;simp only at this;omega
     rw[Qeb,if_neg (fun h=>d (.inl h)),if_neg (fun h=>d (.inr h)),if_neg nb,hn1];simp only[List.drop_succ_cons,List.drop_zero,List.take_succ_cons,List.take_zero];rw[ih t n' (by omega) hu h13t (by omega)];simp only[Option.map_some,List.length_append,List.length_cons,List.length_nil,List.singleton_append];congr 2;omega
def NoLet(r:List UInt8):Prop:=∃ c r', r=c::r' ∧ letB c=false
theorem NoLet.cons{c:UInt8}{r:List UInt8}(h:letB c=false):NoLet (c::r):=⟨c,r,rfl,h⟩
theorem Q0p{c:UInt8}(h:Qer c=true):blB c=false∧c≠125∧sgP c=none∧c≠34∧c≠35:=by
 have h1:97≤c.toNat∧c.toNat≤122:=by simpa [Qer] using h
 have ne:∀ d:UInt8,(d.toNat<97∨122<d.toNat)→c≠d:=fun d hd e=>by subst e; omega
 have f1:=ne 46 (by decide);have f2:=ne 40 (by decide);have f3:=ne 41 (by decide);have f4:=ne 44 (by decide);have f5:=ne 61 (by decide);refine⟨?_,ne 125 (by decide),by simp[sgP,f1,f2,f3,f4,f5],ne 34 (by decide),ne 35 (by decide)⟩;simp only[blB,Bool.or_eq_false_iff,beq_eq_false_iff_ne];omega
theorem Q8d{w:List UInt8}(h:Qd2 w=true):∃ c t,w=c::t∧Qer c=true∧t.all letB=true∧w.length≤32:=by
 rw[Qd2,Bool.and_eq_true,Bool.and_eq_true,Bool.and_eq_true] at h;obtain⟨h1,h2,h3,h4⟩:=h;cases w with
 | nil=>cases h1
 | cons c t =>
  rw[List.all_cons,Bool.and_eq_true] at h4;refine⟨c,t,rfl,?_,h4.2,of_decide_eq_true h2⟩;rw[Qabo h4.1];exact h3
theorem Q2j(n:Int):∃ c t,Qd1 n=c::t∧(c=45∨digB c=true)∧t.all digB=true:=by
 unfold Qd1;split
 ·exact⟨45,_,rfl,.inl rfl,Qlf _⟩
 ·have h:=Qlf n.natAbs;cases hd:digs n.natAbs with
  | nil=>exact absurd hd (Q9l _)
  | cons c t =>
   rw[hd,List.all_cons,Bool.and_eq_true] at h;exact⟨c,t,rfl,.inr h.1,h.2⟩
theorem Q8e{c:UInt8}(h:c=45∨digB c=true):blB c=false∧c≠125∧sgP c=none∧c≠34∧¬ Qer c=true∧c≠35:=by
 have h1:c.toNat=45∨(48≤c.toNat∧c.toNat≤57):=by
  rcases h with rfl | h
  ·exact .inl rfl
  ·exact .inr (by simpa [digB] using h)
 have ne:∀ d:UInt8,(d.toNat<45∨57<d.toNat∨46=d.toNat)→c≠d:=fun d hd e=>by subst e; omega
 have f1:=ne 46 (by decide);have f2:=ne 40 (by decide);have f3:=ne 41 (by decide);have f4:=ne 44 (by decide);have f5:=ne 61 (by decide);refine⟨?_,ne 125 (by decide),by simp[sgP,f1,f2,f3,f4,f5],ne 34 (by decide),?_,ne 35 (by decide)⟩
 ·simp only[blB,Bool.or_eq_false_iff,beq_eq_false_iff_ne];omega
 ·intro q;have:97≤c.toNat∧c.toNat≤122:=by simpa [Qer] using q
  omega
theorem Q0q:∀ w:List UInt8,w.all letB=true→qs w=w∧w.any (· == 13)=false∧∀ n,w.length≤n→utfF n w=true
 | [],_=>⟨rfl,rfl,fun n _=>by cases n<;>rfl⟩
 | c::t,h=>by
  rw[List.all_cons,Bool.and_eq_true] at h;obtain⟨i1,i2,i3⟩:=Q0q t h.2;have hl:(97≤c.toNat∧c.toNat≤122)∨(48≤c.toNat∧c.toNat≤57)∨c.toNat=95:=by simpa [letB,Qer,digB] using h.1
  have ne:∀ d:UInt8,(d.toNat<48∨d.toNat=92)→c≠d:=fun d hd e=>by subst e; omega
  have e:qb c=[c]:=by
   unfold qb;rw[if_neg (ne 10 (by decide)),if_neg (ne 9 (by decide)),if_neg (by intro q; rcases q with q | q; exact ne 34 (by decide) q; exact ne 92 (by decide) q)]
  refine⟨?_,?_,fun n hn=>?_⟩
  ·show qb c++qs t=_;rw[e,i1]; rfl
  ·rw[List.any_cons,i2,Bool.or_false,beq_eq_false_iff_ne];exact ne 13 (by decide)
  ·cases n with
   | zero=>simp at hn
   | succ n =>
    have hn1:Qbp (c::t)=(c.toNat,1):=by rw[Qbp]; unfold Qf5; rw[if_pos (by omega)]
    rw[Qrq n _ (List.cons_ne_nil _ _),hn1];rw[if_neg (by intro q; have:=q.1; simp only at this; omega)];exact i3 n (by simp at hn; omega)
theorem Qagj{s:List UInt8}(hs:s.length≤1000000)(h:(Qjl s).2=true):(Qjl s).1=34::qs s++[34]∧utfF s.length s=true∧s.any (· == 13)=false:=by
 rw[Qjl,(Q0k s hs).1,Option.getD_some,quoV] at h ⊢;by_cases hc:utfF s.length s=true∧s.any (· == 13)=false
 ·rw[if_pos hc]; exact⟨rfl,hc⟩
 ·rw[if_neg hc] at h; cases h
theorem Q5f{w:List UInt8}(h:Qd2 w=true):∃ c t,w=c::t∧blB c=false∧(c==35)=false:=by
 obtain⟨c,t,e,hc,-⟩:=Q8d h;obtain⟨p1,-,-,-,p5⟩:=Q0p hc;exact⟨c,t,e,p1,beq_eq_false_iff_ne.2 p5⟩
theorem Q8f{w v:List UInt8}(h:∃ c t,w=c::t∧blB c=false∧(c==35)=false):∃ c t,w++v=c::t∧blB c=false∧(c==35)=false:=by
 obtain⟨c,t,rfl,h⟩:=h;exact⟨c,t++v,rfl,h⟩
theorem Qak2:Qd2 [115,101,99,114,101,116]=true:=by decide
abbrev room:Nat:=100000000000
mutual
def Qwt:Qab→List UInt8
 | ⟨k,s,t,n,a,_,_⟩ =>
  if k==1 then(Qjl t).1 else
  if k==2 then Qd1 n else
  if k==3 then(if n==1 then [116,114,117,101] else [102,97,108,115,101]) else
  if k==4 then s else
  if k==7 then [115,101,99,114,101,116,40,34]++(s++[34,41]) else
  if k==5 then Qup a++([46]++s) else
  if k==6 then(s++[40])++(Qs7 a false++[41]) else []
def Qup:List Qab→List UInt8
 | []=>[]
 | x::_=>Qwt x
def Qs7:List Qab→Bool→List UInt8
 | [],_=>[]
 | x::r,more=>(if more then [44,32] else [])++(Qwt x++Qs7 r true)
end
theorem Q5g(x:Qab):Qwt x =
  if x.Kind==1 then(Qjl x.Text).1 else
  if x.Kind==2 then Qd1 x.N else
  if x.Kind==3 then(if x.N==1 then [116,114,117,101] else [102,97,108,115,101]) else
  if x.Kind==4 then x.Name else
  if x.Kind==7 then [115,101,99,114,101,116,40,34]++(x.Name++[34,41]) else
  if x.Kind==5 then Qup x.L++([46]++x.Name) else
  if x.Kind==6 then(x.Name++[40])++(Qs7 x.L false++[41]) else []:=by cases x; rw[Qwt]
section
end
def Qmn(k:Int)(s:List UInt8):List UInt8 :=
 if k==9 then [] else if k==13 then([117,115,101,32]++s)++[32] else if k==10 then [105,102,32] else if k==11 then([101,97,99,104,32]++s)++[32,105,110,32] else([108,101,116,32]++s)++[32,61,32]
def actW (k:Int) (s:List UInt8) (a:List Qab):List UInt8:=([123,123,32]++Qmn k s)++(Qup a++[32,125,125])
mutual
def Qadn:Qab→List UInt8
 | ⟨k,s,t,_,a,b,c⟩ =>
  if k==8 then t else
  if k==9||k==13 then actW k s a else
  actW k s a++(Qb3 b++((if zl c then [] else [123,123,32,101,108,115,101,32,125,125]++Qb3 c)++[123,123,32,101,110,100,32,125,125]))
def Qb3:List Qab→List UInt8
 | []=>[]
 | x::r=>Qadn x++Qb3 r
end
theorem Q5h(x:Qab):Qadn x =
  if x.Kind==8 then x.Text else
  if x.Kind==9||x.Kind==13 then actW x.Kind x.Name x.L else
  actW x.Kind x.Name x.L++(Qb3 x.Then++((if zl x.Else then [] else [123,123,32,101,108,115,101,32,125,125]++Qb3 x.Else)++[123,123,32,101,110,100,32,125,125])):=by cases x; rw[Qadn]
def Qagk (l:List Qab):List UInt8×Bool:=if isP l=true then(if(Qb3 l).length≤65536 then(Qb3 l,true) else([],false)) else([],false)
abbrev zt(k:Int)(t:List UInt8)(n:Int):Qaa:=⟨k,t,n,0,0⟩
def RO(r:List UInt8)(T:List Qaa):Prop:=∀ (s:List UInt8) (k n:Nat) (acc:List Qaa),s.drop k=r→k≤s.length→r.length<n→∃ L,tokO s n k acc=(acc++L,0,0)∧zs L=T
def RI(r:List UInt8)(T:List Qaa):Prop:=∀ (s:List UInt8) (k n:Nat) (acc:List Qaa),s.drop k=r→k≤s.length→r.length<n→∃ L k' T', tokI s n k acc = .inl (acc++L,k')∧k<k' ∧ k' ≤ s.length∧RO (s.drop k') T' ∧ T=zs L++T'
theorem Qvv{s r:List UInt8}{k:Nat}(h:s.drop k=r):s.length-k=r.length:=by rw[← h,List.length_drop]
theorem Qajq:∀ t:List UInt8,hasB t=false→fnd 123 123 t=t.length
 | [],_=>rfl
 | [c],_=>rfl
 | c::d::r,h=>by
  rw[hasB,Bool.or_eq_false_iff] at h;have h1:two 123 123 (c::d::r)=false:=by
   have:=h.1;simpa [two] using this
  rw[fnd,h1,Qajq (d::r) h.2];simp; omega
theorem Qagl:∀ (t r:List UInt8),hasB t=false→endB t=false→fnd 123 123 (t++123::123::r)=t.length
 | [],r,_,_=>rfl
 | [c],r,_,he=>by
  have hc:(c==123)=false:=by simpa [endB] using he
  show fnd 123 123 (c::123::123::r)=1;rw[fnd,show two 123 123 (c::123::123::r)=false by simp[two,hc]];rfl
 | c::d::t,r,h,he=>by
  rw[hasB,Bool.or_eq_false_iff] at h;have h1:two 123 123 (c::d::(t++123::123::r))=false:=by
   have:=h.1;simpa [two] using this
  have he' : endB (d::t)=false:=by
   unfold endB at he ⊢
   rwa [List.getLast?_cons_cons] at he
  have ih:=Qagl (d::t) r h.2 he';show fnd 123 123 (c::d::(t++123::123::r))=_;rw[fnd,h1];rw[List.cons_append] at ih;rw[ih];simp; omega
def litZ(t:List UInt8):List Qaa:=if t=[] then [] else [zt 1 t 0]
theorem Qajr(s:List UInt8)(k:Nat)(acc:List Qaa)(t r:List UInt8)(h:s.drop k=t++r)(hf:fnd 123 123 (s.drop k)=t.length):∃ L,litT s k acc=acc++L∧zs L=litZ t:=by
 unfold litT litZ;rw[hf];cases t with
 | nil=>exact⟨[],by simp,rfl⟩
 | cons c t =>
  refine⟨[putT 1 (c::t) 0 k (c::t).length],?_,rfl⟩;rw[if_pos (by simp),h,List.take_left]
theorem RO.last(t:List UInt8)(hb:hasB t=false):RO t (litZ t):=fun s k n acc h hk hn=>by
 cases n with
 | zero=>omega
 | succ n =>
  have hf:fnd 123 123 (s.drop k)=t.length:=by rw[h]; exact Qajq t hb
  obtain⟨L,h1,h2⟩:=Qajr s k acc t [] (by rw[List.append_nil]; exact h) hf;have:=Qvv h;refine⟨L,?_,h2⟩;rw[tokO,hf,if_neg (by omega),h1]
theorem RO.nil:RO [] []:=RO.last [] rfl
def ROp(r:List UInt8)(T:List Qaa):Prop:=∃ c r' T', r=123::123::32::c::r' ∧ blB c=false∧(c==35)=false∧T=zt 2 [] 0::T' ∧ RI (c::r') T'
theorem ROp.ro(t:List UInt8){r:List UInt8}{T:List Qaa}(h:ROp r T)(hb:hasB t=false)(he:endB t=false):RO (t++r) (litZ t++T):=fun s k n acc hd hk hn=>by
 obtain⟨c,r', T', rfl,hc,h35,rfl,hA⟩:=h;cases n with
 | zero=>omega
 | succ n =>
  have hf:fnd 123 123 (s.drop k)=t.length:=by rw[hd]; exact Qagl t _ hb he
  obtain⟨L,h1,h2⟩:=Qajr s k acc t _ hd hf;have hl:=Qvv hd;rw[List.length_append] at hl hn;simp only[List.length_cons] at hl hn;obtain⟨d1,d2⟩:=Qabw hd;have d3:s.drop (k+t.length+2)=32::c::r' := by rw[← List.drop_drop,d1]; rfl
  have d4:s.drop (k+t.length+2+1)=c::r' := by rw[← List.drop_drop,d3]; rfl
  have hbl:blN (32::c::r')=1:=by rw[Qnc,show blB 32=true from rfl,if_pos rfl,Qnc,hc]; rfl
  have hop:Qs6 s (k+t.length)=k+t.length+2+1:=by
   unfold Qs6;rw[d3,hbl,d4,oneB,h35]; rfl
  obtain⟨L2,k', T2,g1,g2,g3,g4,g5⟩:=hA s (k+t.length+2+1) (s.length+1) (litT s k acc++[putT 2 [] 0 (k+t.length) 2]) d4 (by omega) (by simp only[List.length_cons]; omega);obtain⟨L3,e1,e2⟩:=g4 s k' n (litT s k acc++[putT 2 [] 0 (k+t.length) 2]++L2) rfl g3 (by rw[List.length_drop]; omega);refine⟨L++([putT 2 [] 0 (k+t.length) 2]++(L2++L3)),?_,?_⟩
  ·rw[tokO,hf,if_pos (by omega),hop,g1];simp only;rw[e1,h1];simp only[List.append_assoc]
  ·have z:∀ a b:List Qaa,zs (a++b)=zs a++zs b:=fun a b=>List.map_append
   rw[z,z,z,h2,e2,g5];rfl
theorem ROp.ro0{r:List UInt8}{T:List Qaa}(h:ROp r T):RO r T:=h.ro [] rfl rfl
theorem RI.blank{r:List UInt8}{T:List Qaa}(h:RI r T):RI (32::r) T:=fun s k n acc hd hk hn=>by
 have hl:=Qvv hd;simp only[List.length_cons] at hl hn;have d1:s.drop (k+1)=r:=by rw[← List.drop_drop,hd]; rfl
 cases n with
 | zero=>omega
 | succ n =>
  obtain⟨L,k', T', g1,g2,g3,g4,g5⟩:=h s (k+1) (n+1) acc d1 (by omega) (by omega);refine⟨L,k', T', ?_,by omega,g3,g4,g5⟩;have e:k+blN (32::r)=k+1+blN r:=by rw[Qnc,show blB 32=true from rfl,if_pos rfl]; omega
  rw[← g1,tokI,tokI,hd,d1,e]
theorem RI.one{w r:List UInt8}{T:List Qaa}{j:Int}{t:List UInt8}{v:Int}(ho:Qwq (w++r)=some (j,t,v,w.length))(hw:∃ c w', w=c::w' ∧ blB c=false∧c≠125)(h:RI r T):RI (w++r) (zt j t v::T):=fun s k n acc hd hk hn=>by
 obtain⟨c,w', rfl,hb,h125⟩:=hw;have hl:=Qvv hd;rw[List.length_append] at hl hn;simp only[List.length_cons] at hl hn;obtain⟨d1,d2⟩:=Qabw hd;have hb0:blN ((c::w')++r)=0:=by rw[List.cons_append,Qnc,hb]; rfl
 have h2:two 125 125 ((c::w')++r)=false:=by
  have e:(c==125)=false:=beq_eq_false_iff_ne.2 h125;cases hx:w' ++ r with
  | nil=>simp[two,hx]
  | cons d q=>simp[two,hx,e]
 cases n with
 | zero=>omega
 | succ n =>
  obtain⟨L,k', T', g1,g2,g3,g4,g5⟩:=h s (k+(c::w').length) n (acc++[putT j t v k (c::w').length]) d1 (d2 hk) (by omega);refine⟨putT j t v k (c::w').length::L,k', T', ?_,by simp only[List.length_cons] at g2; omega,g3,g4,?_⟩
  ·rw[tokI,hd,hb0,Nat.add_zero,hd,h2,if_neg (by decide),ho];simp only;rw[g1,List.append_assoc]; rfl
  ·rw[g5]; rfl
theorem RI.close{r:List UInt8}{T:List Qaa}(h:RO r T):RI (125::125::r) (zt 3 [] 0::T):=fun s k n acc hd hk hn=>by
 have hl:=Qvv hd;simp only[List.length_cons] at hl hn;have hb0:blN (125::125::r)=0:=by rw[Qnc]; rfl
 have d2:s.drop (k+2)=r:=by rw[← List.drop_drop,hd]; rfl
 cases n with
 | zero=>omega
 | succ n =>
  refine⟨[putT 3 [] 0 k 2],k+2,T,?_,by omega,by omega,by rw[d2]; exact h,rfl⟩;rw[tokI,hd,hb0,Nat.add_zero,hd,if_pos (by rfl)]
theorem RI.sign{c:UInt8}{j:Int}(hc:sgP c=some j)(hb:blB c=false)(h125:c≠125){r:List UInt8}{T:List Qaa}(h:RI r T):RI (c::r) (zt j [] 0::T) :=
 RI.one (w:=[c]) (by rw[List.cons_append,Qie,hc]; rfl) ⟨c,[],rfl,hb,h125⟩ h
theorem RI.dot{r:List UInt8}{T:List Qaa}(h:RI r T):RI (46::r) (zt 7 [] 0::T):=RI.sign (by rfl) (by rfl) (by decide) h
theorem RI.opn{r:List UInt8}{T:List Qaa}(h:RI r T):RI (40::r) (zt 8 [] 0::T):=RI.sign (by rfl) (by rfl) (by decide) h
theorem RI.cls{r:List UInt8}{T:List Qaa}(h:RI r T):RI (41::r) (zt 9 [] 0::T):=RI.sign (by rfl) (by rfl) (by decide) h
theorem RI.comma{r:List UInt8}{T:List Qaa}(h:RI r T):RI (44::r) (zt 10 [] 0::T):=RI.sign (by rfl) (by rfl) (by decide) h
theorem RI.eq{r:List UInt8}{T:List Qaa}(h:RI r T):RI (61::r) (zt 11 [] 0::T):=RI.sign (by rfl) (by rfl) (by decide) h
theorem Qaah(p:UInt8→Bool):∀ (t:List UInt8) {c:UInt8} {r:List UInt8},t.all p=true→p c=false→run p (t++c::r)=t.length
 | [],c,r,_,h=>by rw[List.nil_append,Qnd,h]; rfl
 | d::t,c,r,ha,h=>by
  rw[List.all_cons,Bool.and_eq_true] at ha;rw[List.cons_append,Qnd,ha.1,if_pos rfl,Qaah p t ha.2 h,List.length_cons]; omega
theorem RI.word{w r:List UInt8}{T:List Qaa}(hw:Qd2 w=true)(hr:NoLet r)(h:RI r T):RI (w++r) (zt 4 w 0::T):=by
 obtain⟨c,t,rfl,hc,ht,hl⟩:=Q8d hw;obtain⟨p1,p2,p3,p4,-⟩:=Q0p hc;obtain⟨d,r', rfl,hd⟩:=hr;refine RI.one ?_ ⟨c,t,rfl,p1,p2⟩ h;have e:run letB (t++d::r')=t.length:=Qaah letB t ht hd;have ek:1+t.length=(c::t).length:=by simp; omega
 have et:(c::(t++d::r')).take (c::t).length=c::t:=by rw[← List.cons_append,List.take_left]
 rw[List.cons_append,Qie,p3];simp only;rw[if_neg p4,if_pos hc,e,ek,et,if_pos hw]
theorem NoLet.noDig{r:List UInt8}(h:NoLet r):∃ c r', r=c::r' ∧ digB c=false:=by
 obtain⟨c,r', e,hc⟩:=h;refine⟨c,r', e,?_⟩;rw[letB,Bool.or_eq_false_iff,Bool.or_eq_false_iff] at hc;exact hc.2.1
theorem RI.num{n:Int}(hn:Qso n){r:List UInt8}{T:List Qaa}(hr:NoLet r)(h:RI r T):RI (Qd1 n++r) (zt 6 [] n::T):=by
 obtain⟨c,t,e,hc,ht⟩:=Q2j n;obtain⟨p1,p2,p3,p4,p5,-⟩:=Q8e hc;have hnum:=Q61 n hn;obtain⟨d,r', rfl,hd⟩:=hr.noDig;rw[e] at hnum ⊢;refine RI.one ?_ ⟨c,t,rfl,p1,p2⟩ h;have e1:run digB (t++d::r')=t.length:=Qaah digB t ht hd;have ek:1+t.length=(c::t).length:=by simp; omega
 have et:(c::(t++d::r')).take (c::t).length=c::t:=by rw[← List.cons_append,List.take_left]
 rw[List.cons_append,Qie,p3];simp only;rw[if_neg p4,if_neg p5,if_pos hc,e1,ek,et,hnum,if_pos rfl]
theorem RI.quoted{t r:List UInt8}{T:List Qaa}(hu:utfF t.length t=true)(h13:t.any (· == 13)=false)(h:RI r T):RI ((34::qs t++[34])++r) (zt 5 t 0::T):=by
 refine RI.one ?_ ⟨34,qs t++[34],rfl,by rfl,by decide⟩ h;have e:(34::qs t++[34])++r=34::(qs t++34::r):=by simp
 rw[e,Qie,show sgP 34=none from rfl];simp only;rw[if_pos trivial,Qak1 r t.length t _ (Nat.le_refl _) hu h13 (by simp; omega),Option.map_some];congr 4;simp; omega
mutual
def Qeg:Qab→List Qaa
 | ⟨k,s,t,n,a,_,_⟩ =>
  if k==1 then [zt 5 t 0] else
  if k==2 then [zt 6 [] n] else
  if k==3 then [zt 4 (if n==1 then Qadh else Q0a) 0] else
  if k==4 then [zt 4 s 0] else
  if k==7 then [zt 4 Qrn 0,zt 8 [] 0,zt 5 s 0,zt 9 [] 0] else
  if k==5 then Qwu a++[zt 7 [] 0,zt 4 s 0] else
  if k==6 then zt 4 s 0::zt 8 [] 0::(Qmo a false++[zt 9 [] 0]) else []
def Qwu:List Qab→List Qaa
 | []=>[]
 | x::_=>Qeg x
def Qmo:List Qab→Bool→List Qaa
 | [],_=>[]
 | x::r,more=>(if more then [zt 10 [] 0] else [])++(Qeg x++Qmo r true)
end
theorem Qsk(x:Qab):Qeg x =
  if x.Kind==1 then [zt 5 x.Text 0] else
  if x.Kind==2 then [zt 6 [] x.N] else
  if x.Kind==3 then [zt 4 (if x.N==1 then Qadh else Q0a) 0] else
  if x.Kind==4 then [zt 4 x.Name 0] else
  if x.Kind==7 then [zt 4 Qrn 0,zt 8 [] 0,zt 5 x.Name 0,zt 9 [] 0] else
  if x.Kind==5 then Qwu x.L++[zt 7 [] 0,zt 4 x.Name 0] else
  if x.Kind==6 then zt 4 x.Name 0::zt 8 [] 0::(Qmo x.L false++[zt 9 [] 0]) else []:=by cases x; rw[Qeg]
structure RTk (w:List UInt8) (T:List Qaa):Prop where
 hd:∃ c t,w=c::t∧blB c=false∧(c==35)=false
 ok:∀ r S,NoLet r→RI r S→RI (w++r) (T++S)
theorem RTk.word{w:List UInt8}(h:Qd2 w=true):RTk w [zt 4 w 0]:=⟨Q5f h,fun _ _ hr ha=>RI.word h hr ha⟩
theorem Qagm:∀ (l:List Qab),(∀ x ∈ l,RTk (Qwt x) (Qeg x))→∀ (more:Bool) (r:List UInt8) (S:List Qaa),RI r S→RI (Qs7 l more++(41::r)) (Qmo l more++(zt 9 [] 0::S))∧(more=true→NoLet (Qs7 l more++(41::r)))
 | [],_,more,r,S,h=>by
  rw[Qs7,List.nil_append,Qmo,List.nil_append];exact⟨RI.cls h,fun _=>NoLet.cons (by rfl)⟩
 | x::l,hx,more,r,S,h=>by
  obtain⟨i1,i2⟩:=Qagm l (fun y hy=>hx y (List.mem_cons_of_mem _ hy)) true r S h;have hA:=(hx x (List.mem_cons_self ..)).ok _ _ (i2 rfl) i1;rw[Qs7,Qmo];cases more with
  | false =>
   simp only[Bool.false_eq_true,if_false,List.nil_append,List.append_assoc];exact⟨hA,fun q=>by cases q⟩
  | true =>
   simp only[if_true,List.append_assoc,List.cons_append,List.nil_append];exact⟨RI.comma (RI.blank hA),fun _=>NoLet.cons (by rfl)⟩
theorem Qak3:∀ n (x:Qab),nn x≤n→allN okNd x→Qhz x=true→RTk (Qwt x) (Qeg x):=by
 intro n
 induction n with
 | zero=>intro x h; have:=Qjk x; omega
 | succ n ih =>
  intro x h ho he;rw[Qf4] at h;obtain⟨hq,ho1,-,-⟩:=(Qhy okNd x).1 ho;rw[Q5g,Qsk];rw[Qsh] at he;by_cases k1:x.Kind=1
  ·simp only[k1,beq_self_eq_true,if_true,Bool.and_eq_true] at he ⊢;obtain⟨e,hu,h13⟩:=Qagj hq.tx he.1;rw[e];exact⟨⟨34,_,rfl,by rfl,by rfl⟩,fun r S _ ha=>RI.quoted hu h13 ha⟩
  have b1:(x.Kind==1)=false:=beq_eq_false_iff_ne.2 k1;simp only[b1,Bool.false_eq_true,if_false] at he ⊢;by_cases k2:x.Kind=2
  ·simp only[k2,beq_self_eq_true,if_true] at he ⊢;refine⟨?_,fun r S hr ha=>RI.num hq.rg hr ha⟩;obtain⟨c,t,e,hc,-⟩:=Q2j x.N;obtain⟨p1,-,-,-,-,p6⟩:=Q8e hc;exact⟨c,t,e,p1,beq_eq_false_iff_ne.2 p6⟩
  have b2:(x.Kind==2)=false:=beq_eq_false_iff_ne.2 k2;simp only[b2,Bool.false_eq_true,if_false] at he ⊢;by_cases k3:x.Kind=3
  ·simp only[k3,beq_self_eq_true,if_true] at he ⊢;cases (x.N==1)
   ·exact RTk.word (by decide)
   ·exact RTk.word (by decide)
  have b3:(x.Kind==3)=false:=beq_eq_false_iff_ne.2 k3;simp only[b3,Bool.false_eq_true,if_false] at he ⊢;by_cases k4:x.Kind=4
  ·simp only[k4,beq_self_eq_true,if_true,Bool.and_eq_true] at he ⊢;exact RTk.word (Qml he.1)
  have b4:(x.Kind==4)=false:=beq_eq_false_iff_ne.2 k4;simp only[b4,Bool.false_eq_true,if_false] at he ⊢;by_cases k7:x.Kind=7
  ·have c5:(x.Kind==5)=false:=by rw[k7]; rfl
   have c6:(x.Kind==6)=false:=by rw[k7]; rfl
   rw[c5,c6] at he;simp only[k7,beq_self_eq_true,if_true,Bool.false_eq_true,if_false,Bool.and_eq_true] at he ⊢;have hw:=he.1;have hall:x.Name.all letB=true:=by
    rw[Qd2,Bool.and_eq_true,Bool.and_eq_true,Bool.and_eq_true] at hw;exact hw.2.2.2
   obtain⟨z1,z2,z3⟩:=Q0q _ hall;refine⟨⟨115,_,rfl,by rfl,by rfl⟩,fun r S _ ha=>?_⟩;have hQ:=RI.quoted (t:=x.Name) (z3 _ (by omega)) z2 (RI.cls ha);rw[z1] at hQ;have hS:=RI.word Qak2 (NoLet.cons (by rfl)) (RI.opn hQ);have e:([115,101,99,114,101,116,40,34]++(x.Name++[34,41]))++r=[115,101,99,114,101,116]++40::(34::x.Name++[34]++41::r):=by simp
   rw[e];exact hS
  have b7:(x.Kind==7)=false:=beq_eq_false_iff_ne.2 k7;simp only[b7,Bool.false_eq_true,if_false] at he ⊢;by_cases k5:x.Kind=5
  ·simp only[k5,beq_self_eq_true,if_true,Bool.and_eq_true] at he ⊢;obtain⟨hw,hl,hex,-⟩:=he;obtain⟨y,hy⟩:=List.length_eq_one_iff.1 (by simpa using hl:x.L.length=1);have hy1:nn y≤n:=by have:=Qgj (show y ∈ x.L by rw[hy]; simp); omega
   have hy2:allN okNd y:=Qhe (show y ∈ x.L by rw[hy]; simp) ho1;have hy3:Qhz y=true:=by rw[hy,Qbf,Bool.and_eq_true] at hex; exact hex.1
   have ty:=ih y hy1 hy2 hy3;rw[hy,Qup,Qwu];refine⟨Q8f ty.hd,fun r S hr ha=>?_⟩;have:=ty.ok (46::(x.Name++r)) _ (NoLet.cons (by rfl)) (RI.dot (RI.word hw hr ha));simpa using this
  have b5:(x.Kind==5)=false:=beq_eq_false_iff_ne.2 k5;simp only[b5,Bool.false_eq_true,if_false] at he ⊢;by_cases k6:x.Kind=6
  ·simp only[k6,beq_self_eq_true,if_true,Bool.and_eq_true] at he ⊢;obtain⟨hw,-,hex,-⟩:=he;have hall:∀ (l:List Qab),Qbf l=true→∀ y ∈ l,Qhz y=true:=by
    intro l
    induction l with
    | nil=>intro _ y hy; cases hy
    | cons z l ihl =>
     intro hz y hy;rw[Qbf,Bool.and_eq_true] at hz;rcases List.mem_cons.1 hy with rfl | hy
     ·exact hz.1
     ·exact ihl hz.2 y hy
   have hT:∀ y ∈ x.L,RTk (Qwt y) (Qeg y):=fun y hy=>ih y (by have:=Qgj hy; omega) (Qhe hy ho1) (hall _ hex y hy)
   refine⟨Q8f (Q8f (Q5f (Qml hw))),fun r S hr ha=>?_⟩;have:=RI.word (Qml hw) (NoLet.cons (by rfl)) (RI.opn (Qagm x.L hT false r S ha).1);simpa using this
  have b6:(x.Kind==6)=false:=beq_eq_false_iff_ne.2 k6;simp only[b6,Bool.false_eq_true,if_false] at he
def Qlc(k:Int)(s:List UInt8):List Qaa :=
 if k==9 then [] else if k==13 then [zt 4 wUse 0,zt 4 s 0] else if k==10 then [zt 4 wIf 0] else if k==11 then [zt 4 Qxu 0,zt 4 s 0,zt 4 wIn 0] else [zt 4 wLet 0,zt 4 s 0,zt 11 [] 0]
def actT (k:Int) (s:List UInt8) (a:List Qab):List Qaa:=zt 2 [] 0::(Qlc k s++(Qwu a++[zt 3 [] 0]))
def Qei(w:List UInt8):List Qaa:=[zt 2 [] 0,zt 4 w 0,zt 3 [] 0]
mutual
def Qaai:Qab→List Qaa
 | ⟨k,s,t,_,a,b,c⟩ =>
  if k==8 then [zt 1 t 0] else
  if k==9||k==13 then actT k s a else
  actT k s a++(Qax b++((if zl c then [] else Qei Qes++Qax c)++Qei wEnd))
def Qax:List Qab→List Qaa
 | []=>[]
 | x::r=>Qaai x++Qax r
end
theorem Qvw(x:Qab):Qaai x =
  if x.Kind==8 then [zt 1 x.Text 0] else
  if x.Kind==9||x.Kind==13 then actT x.Kind x.Name x.L else
  actT x.Kind x.Name x.L++(Qax x.Then++((if zl x.Else then [] else Qei Qes++Qax x.Else)++Qei wEnd)):=by cases x; rw[Qaai]
theorem Qak4(k:Int)(s:List UInt8)(hk:k=9∨k=10∨Qfu s=true){v:List UInt8}{V:List Qaa}(hv:RTk v V){r:List UInt8}{S:List Qaa}(h:RO r S):ROp (([123,123,32]++Qmn k s)++(v++[32,125,125])++r) (zt 2 [] 0::(Qlc k s++(V++(zt 3 [] 0::S)))):=by
 have hA:RI (v++32::125::125::r) (V++(zt 3 [] 0::S)):=hv.ok _ _ (NoLet.cons (by rfl)) (RI.blank (RI.close h));have mk:∀ (w:List UInt8) (W:List Qaa),(∃ c t,w++(v++32::125::125::r)=c::t∧blB c=false∧(c==35)=false)→RI (w++(v++32::125::125::r)) W→ROp (([123,123,32]++w)++(v++[32,125,125])++r) (zt 2 [] 0::W):=fun w W ⟨c,t,e,h1,h2⟩ h3=>by
  refine⟨c,t,W,?_,h1,h2,rfl,by rw[← e]; exact h3⟩;rw[← e]; simp
 have kw:∀ w0:List UInt8,Qd2 w0=true→∀ (w1:List UInt8) (W:List Qaa),RI (32::(w1++(v++32::125::125::r))) W→∀ w,w=w0++32::w1→ROp (([123,123,32]++w)++(v++[32,125,125])++r) (zt 2 [] 0::zt 4 w0 0::W):=fun w0 h0 w1 W h1 w e=>by
  subst e;refine mk _ _ ?_ ?_
  ·rw[List.append_assoc]; exact Q8f (Q5f h0)
  ·rw[List.append_assoc,List.cons_append];exact RI.word h0 (NoLet.cons (by rfl)) h1
 by_cases k9:k=9
 ·subst k9;rw[show Qmn 9 s=[] from rfl,show Qlc 9 s=[] from rfl];refine mk [] _ ?_ hA;rw[List.nil_append]; exact Q8f hv.hd
 by_cases k13:k=13
 ·subst k13;have hs:Qfu s=true:=by rcases hk with h | h | h; exact absurd h (by decide); exact absurd h (by decide); exact h
  rw[show Qmn 13 s=([117,115,101,32]++s)++[32] from rfl,show Qlc 13 s=[zt 4 wUse 0,zt 4 s 0] from rfl];refine kw [117,115,101] (by decide) (s++[32]) _ ?_ _ (by simp);have:=RI.blank (RI.word (Qml hs) (NoLet.cons (by rfl)) (RI.blank hA));simpa using this
 by_cases k10:k=10
 ·subst k10;exact kw [105,102] (by decide) [] _ (RI.blank hA) _ (by simp[Qmn])
 have hs:Qfu s=true:=by rcases hk with h | h | h; exact absurd h k9; exact absurd h k10; exact h
 by_cases k11:k=11
 ·subst k11;rw[show Qmn 11 s=([101,97,99,104,32]++s)++[32,105,110,32] from rfl,show Qlc 11 s=[zt 4 Qxu 0,zt 4 s 0,zt 4 wIn 0] from rfl];refine kw [101,97,99,104] (by decide) (s++[32,105,110,32]) _ ?_ _ (by simp);have:=RI.blank (RI.word (Qml hs) (NoLet.cons (by rfl)) (RI.blank (RI.word (show Qd2 [105,110]=true by decide) (NoLet.cons (by rfl)) (RI.blank hA))));simpa using this
 have b9:(k==9)=false:=beq_eq_false_iff_ne.2 k9;have b13:(k==13)=false:=beq_eq_false_iff_ne.2 k13;have b10:(k==10)=false:=beq_eq_false_iff_ne.2 k10;have b11:(k==11)=false:=beq_eq_false_iff_ne.2 k11;have eW:Qmn k s=([108,101,116,32]++s)++[32,61,32]:=by unfold Qmn; rw[b9,b13,b10,b11]; rfl
 have eT:Qlc k s=[zt 4 wLet 0,zt 4 s 0,zt 11 [] 0]:=by unfold Qlc; rw[b9,b13,b10,b11]; rfl
 rw[eW,eT];refine kw [108,101,116] (by decide) (s++[32,61,32]) _ ?_ _ (by simp);have:=RI.blank (RI.word (Qml hs) (NoLet.cons (by rfl)) (RI.blank (RI.eq (RI.blank hA))));simpa using this
theorem Qagn{w:List UInt8}(hw:Qd2 w=true){r:List UInt8}{S:List Qaa}(h:RO r S):ROp (([123,123,32]++w++[32,125,125])++r) (Qei w++S):=by
 have hA:=RI.word hw (NoLet.cons (r:=125::125::r) (c:=32) (by rfl)) (RI.blank (RI.close h));obtain⟨c,t,e,h1,h2⟩:=Q5f hw;exact⟨c,t++(32::125::125::r),_,by rw[e]; simp,h1,h2,rfl,by rw[e] at hA ⊢; exact hA⟩
def RAfter(b:Bool)(r:List UInt8)(S:List Qaa):Prop:=if b then ROp r S else(r=[]∧S=[])
theorem RAfter.ao{b:Bool}{r:List UInt8}{S:List Qaa}(h:RAfter b r S):RO r S:=by
 cases b with
 | true=>exact ROp.ro0 h
 | false=>obtain⟨rfl,rfl⟩:=(show r=[]∧S=[] from h); exact RO.nil
theorem Qak5{t:List UInt8}(h:¬ t=[]):litZ t=[zt 1 t 0]:=if_neg h
theorem Qaiw:∀ n (l:List Qab) (b:Bool) (r:List UInt8) (S:List Qaa),nns l≤n→allL okNd l→Qby l b=true→RAfter b r S→RO (Qb3 l++r) (Qax l++S)∧(l≠[]→litB l=false→ROp (Qb3 l++r) (Qax l++S)):=by
 intro n
 induction n with
 | zero =>
  intro l b r S h ho hb ha;cases l with
  | nil=>rw[Qb3,List.nil_append,Qax,List.nil_append]; exact⟨ha.ao,fun q=>absurd rfl q⟩
  | cons x l=>have:=Qjk x; rw[nns] at h; omega
 | succ n ih =>
  intro l b r S h ho hb ha;cases l with
  | nil=>rw[Qb3,List.nil_append,Qax,List.nil_append]; exact⟨ha.ao,fun q=>absurd rfl q⟩
  | cons x l =>
   have hp:=Qjk x;rw[nns] at h;rw[allL] at ho;rw[Qby,Bool.and_eq_true,Bool.and_eq_true] at hb;obtain⟨hs,hbad,hbl⟩:=hb;obtain⟨i1,i2⟩:=ih l b r S (by omega) ho.2 hbl ha;obtain⟨hq,ho1,ho2,ho3⟩:=(Qhy okNd x).1 ho.1;have hx:=Qf4 x;rw[Qb3,List.append_assoc,Qax,List.append_assoc];rw[Qnb] at hs;rw[Q5h,Qvw];by_cases k8:x.Kind=8
   ·have hlit:litB (x::l)=true:=by rw[litB,k8]; rfl
    refine⟨?_,fun _ q=>by rw[hlit] at q; cases q⟩;simp only[k8,beq_self_eq_true,if_true,Bool.and_eq_true] at hs ⊢;have hne:¬ x.Text=[]:=by have:=hs.1; simpa using this
    have hB:hasB x.Text=false:=by have:=hs.2.1; simpa using this
    rw[Q71,k8] at hbad;simp only[beq_self_eq_true,Bool.true_and,Bool.not_eq_true', Bool.or_eq_false_iff] at hbad;obtain⟨hnl,hend⟩:=hbad;rw[← Qak5 hne];cases l with
    | cons y l =>
     refine ROp.ro x.Text (i2 (List.cons_ne_nil _ _) hnl) hB ?_;simpa using hend
    | nil =>
     rw[Qb3,List.nil_append,Qax,List.nil_append];cases b with
     | true=>exact ROp.ro x.Text ha hB (by simpa using hend)
     | false =>
      obtain⟨rfl,rfl⟩:=(show r=[]∧S=[] from ha);rw[List.append_nil,List.append_nil];exact RO.last _ hB
   ·have b8:(x.Kind==8)=false:=beq_eq_false_iff_ne.2 k8;simp only[b8,Bool.false_eq_true,if_false] at hs ⊢;have key:ROp ((if(x.Kind==9||x.Kind==13)=true then actW x.Kind x.Name x.L else actW x.Kind x.Name x.L++(Qb3 x.Then++((if zl x.Else=true then [] else [123,123,32,101,108,115,101,32,125,125]++Qb3 x.Else)++[123,123,32,101,110,100,32,125,125])))++(Qb3 l++r))
      ((if(x.Kind==9||x.Kind==13)=true then actT x.Kind x.Name x.L else actT x.Kind x.Name x.L++(Qax x.Then++((if zl x.Else=true then [] else Qei Qes++Qax x.Else)++Qei wEnd)))++(Qax l++S)):=by
     have one:(x.L.length==1&&Qbf x.L)=true→RTk (Qup x.L) (Qwu x.L):=fun h1=>by
      rw[Bool.and_eq_true] at h1;obtain⟨y,hy⟩:=List.length_eq_one_iff.1 (by simpa using h1.1:x.L.length=1);have hex:=h1.2;rw[hy,Qbf,Bool.and_eq_true] at hex;have hym:y ∈ x.L:=by rw[hy]; simp
      rw[hy,Qup,Qwu];exact Qak3 n y (by have:=Qgj hym; omega) (Qhe hym ho1) hex.1
     have hend:∀ R Q,RO R Q→ROp ([123,123,32,101,110,100,32,125,125]++R) (Qei wEnd++Q):=fun R Q hR=>Qagn (w:=[101,110,100]) (by decide) hR
     have helse:∀ R Q,RO R Q→ROp ([123,123,32,101,108,115,101,32,125,125]++R) (Qei Qes++Q):=fun R Q hR=>Qagn (w:=[101,108,115,101]) (by decide) hR
     have act:∀ k,(k=9∨k=10∨Qfu x.Name=true)→RTk (Qup x.L) (Qwu x.L)→∀ R Q,RO R Q→ROp (actW k x.Name x.L++R) (actT k x.Name x.L++Q):=fun k hk h1 R Q hR=>by
      have:=Qak4 k x.Name hk h1 hR;unfold actW actT;simpa only[List.append_assoc,List.cons_append,List.nil_append] using this
     by_cases k9:x.Kind=9
     ·simp only[k9,beq_self_eq_true,if_true,Bool.true_or,Bool.and_eq_true] at hs ⊢;exact act 9 (.inl rfl) (one (by rw[Bool.and_eq_true]; exact hs.1)) _ _ i1
     have b9:(x.Kind==9)=false:=beq_eq_false_iff_ne.2 k9;simp only[b9,Bool.false_eq_true,if_false,Bool.false_or] at hs ⊢;have blk:∀ (hn:x.Kind=10∨Qfu x.Name=true) (h1:RTk (Qup x.L) (Qwu x.L)) (hT:Qby x.Then true=true) (hE:Qby x.Else true=true),ROp ((actW x.Kind x.Name x.L++(Qb3 x.Then++((if zl x.Else=true then [] else [123,123,32,101,108,115,101,32,125,125]++Qb3 x.Else)++[123,123,32,101,110,100,32,125,125])))++(Qb3 l++r))
       ((actT x.Kind x.Name x.L++(Qax x.Then++((if zl x.Else=true then [] else Qei Qes++Qax x.Else)++Qei wEnd)))++(Qax l++S)):=fun hn h1 hT hE=>by
      have eE:=hend _ _ i1;have hR:ROp ((if zl x.Else=true then [] else [123,123,32,101,108,115,101,32,125,125]++Qb3 x.Else)++([123,123,32,101,110,100,32,125,125]++(Qb3 l++r))) ((if zl x.Else=true then [] else Qei Qes++Qax x.Else)++(Qei wEnd++(Qax l++S))):=by
       by_cases hz:zl x.Else=true
       ·rw[if_pos hz,List.nil_append,if_pos hz,List.nil_append]; exact eE
       ·rw[if_neg hz,List.append_assoc,if_neg hz,List.append_assoc];exact helse _ _ (ih x.Else true _ _ (by omega) ho3 hE eE).1
      have hT2:=(ih x.Then true _ _ (by omega) ho2 hT hR).1;have:=act x.Kind (.inr hn) h1 _ _ hT2;simpa only[List.append_assoc] using this
     by_cases k10:x.Kind=10
     ·have b13:(x.Kind==13)=false:=by rw[k10]; rfl
      rw[b13];simp only[k10,beq_self_eq_true,if_true,Bool.and_eq_true,Bool.false_eq_true,if_false] at hs;simp only[Bool.false_eq_true,if_false];exact blk (.inl k10) (one (by rw[Bool.and_eq_true]; exact hs.1)) hs.2.1.1 hs.2.1.2
     have b10:(x.Kind==10)=false:=beq_eq_false_iff_ne.2 k10;simp only[b10,Bool.false_eq_true,if_false] at hs;by_cases k11:(x.Kind==11||x.Kind==12)=true
     ·have b13:(x.Kind==13)=false:=by
       rw[beq_eq_false_iff_ne]; intro q; rw[q] at k11; exact absurd k11 (by decide)
      rw[b13];rw[if_pos k11] at hs;simp only[Bool.and_eq_true] at hs;simp only[Bool.false_eq_true,if_false];have hz:=hs.2.2.2.2.2;exact blk (.inr hs.1) (one (by rw[Bool.and_eq_true]; exact hs.2.1)) hs.2.2.1 (by rw[Qdo hz]; exact Qg3 _)
     rw[if_neg k11] at hs;by_cases k13:x.Kind=13
     ·simp only[k13,beq_self_eq_true,if_true,Bool.and_eq_true] at hs ⊢;exact act 13 (.inr (.inr hs.1)) (one (by rw[Bool.and_eq_true]; exact hs.2.1)) _ _ i1
     ·have b13:(x.Kind==13)=false:=beq_eq_false_iff_ne.2 k13;rw[b13] at hs; simp at hs
    exact⟨key.ro0,fun _ _=>key⟩
theorem Q8g(l:List Qab)(ho:allL okNd l)(hb:Qby l false=true)(h6:(Qb3 l).length≤65536):∃ L,Qcc (Qb3 l)=(L,0,0)∧zs L=Qax l:=by
 have h:=(Qaiw (nns l) l false [] [] (Nat.le_refl _) ho hb ⟨rfl,rfl⟩).1;rw[List.append_nil,List.append_nil] at h;obtain⟨L,h1,h2⟩:=h (Qb3 l) 0 ((Qb3 l).length+1) [] (by rw[List.drop_zero]) (by omega) (by omega);refine⟨L,?_,h2⟩;rw[Qcc,if_neg (by omega),h1,List.nil_append]
theorem Qago{s:List UInt8}(h:Qfu s=true):Qd2 s=true∧∀ w ∈ kws,¬ s=w:=by
 rw[Qfu,Bool.and_eq_true] at h;refine⟨h.2,fun w hw e=>?_⟩;have h1:=h.1;rw[Bool.not_eq_true', List.any_eq_false] at h1;exact h1 w hw (by rw[e]; simp)
theorem Qed(w s:List UInt8)(n:Int)(r:List Qaa):isW w (zt 4 s n::r)=(s==w):=rfl
theorem Q5i{s w:List UInt8}(h:Qfu s=true)(hw:w ∈ kws)(r:List Qaa):isW w (zt 4 s 0::r)=false:=by
 rw[Qed];exact beq_eq_false_iff_ne.2 ((Qago h).2 w hw)
theorem Qvx{s:List UInt8}(h:Qfu s=true)(r:List Qaa):Qg4 (zt 4 s 0::r) = .ok s r:=by
 unfold Qg4;rw[if_pos ⟨rfl,h⟩]; rfl
theorem Qg6(k:Int)(t:List UInt8)(n:Int)(r:List Qaa):want k (zt k t n::r) = .ok (zt k t n) r:=by
 unfold want;rw[if_pos (show kd (zt k t n::r)=k from rfl)]; rfl
def Beg(T:List Qaa):Prop:=∃ t r,T=t::r∧(t.Kind=4∨t.Kind=5∨t.Kind=6)∧∀ w ∈ [wIf,Qes,wEnd,Qxu,wIn,wLet,wUse],¬ (t.Kind=4∧t.Text=w)
theorem Beg.app{T S:List Qaa}(h:Beg T):Beg (T++S):=by
 obtain⟨t,r,rfl,h⟩:=h;exact⟨t,r++S,rfl,h⟩
theorem Beg.kd{T:List Qaa}(h:Beg T):kd T=4∨kd T=5∨kd T=6:=by
 obtain⟨t,r,rfl,h,-⟩:=h;exact h
theorem Beg.noW{T:List Qaa}(h:Beg T){w:List UInt8}(hw:w ∈ [wIf,Qes,wEnd,Qxu,wIn,wLet,wUse]):isW w T=false:=by
 obtain⟨t,r,rfl,-,h⟩:=h;have:=h w hw;unfold isW;rw[Qakr,Qaf0];by_cases h4:t.Kind=4
 ·have h5:(t.Text==w)=false:=beq_eq_false_iff_ne.2 fun e=>this ⟨h4,e⟩
  rw[h5,Bool.and_false]
 ·rw[beq_eq_false_iff_ne.2 h4,Bool.false_and]
theorem Qab0{s:List UInt8}(h:Qfu s=true)(r:List Qaa):Beg (zt 4 s 0::r):=by
 refine⟨_,_,rfl,.inl rfl,fun w hw q=>(Qago h).2 w ?_ q.2⟩;simp only[List.mem_cons,List.not_mem_nil,or_false] at hw;rcases hw with rfl | rfl | rfl | rfl | rfl | rfl | rfl<;>simp[kws]
theorem Q5j:∀ n (x:Qab),nn x≤n→Qhz x=true→Beg (Qeg x)∧nn x≤(Qeg x).length:=by
 intro n
 induction n with
 | zero=>intro x h; have:=Qjk x; omega
 | succ n ih =>
  intro x h he;rw[Qf4] at h ⊢;rw[Qsk];rw[Qsh] at he;have zn:∀ {l:List Qab},zl l=true→nns l=0:=fun h=>by rw[Qdo h]; rfl
  by_cases k1:x.Kind=1
  ·simp only[k1,beq_self_eq_true,if_true,Bool.and_eq_true] at he ⊢;obtain⟨-,-,-,h1,h2,h3⟩:=he;exact⟨⟨_,_,rfl,.inr (.inl rfl),fun w _ q=>absurd q.1 (show ¬ (5:Int)=4 by decide)⟩,by rw[zn h1,zn h2,zn h3]; simp⟩
  have b1:(x.Kind==1)=false:=beq_eq_false_iff_ne.2 k1;simp only[b1,Bool.false_eq_true,if_false] at he ⊢;by_cases k2:x.Kind=2
  ·simp only[k2,beq_self_eq_true,if_true,Bool.and_eq_true] at he ⊢;obtain⟨-,-,h1,h2,h3⟩:=he;exact⟨⟨_,_,rfl,.inr (.inr rfl),fun w _ q=>absurd q.1 (show ¬ (6:Int)=4 by decide)⟩,by rw[zn h1,zn h2,zn h3]; simp⟩
  have b2:(x.Kind==2)=false:=beq_eq_false_iff_ne.2 k2;simp only[b2,Bool.false_eq_true,if_false] at he ⊢;by_cases k3:x.Kind=3
  ·simp only[k3,beq_self_eq_true,if_true,Bool.and_eq_true] at he ⊢;obtain⟨-,-,-,h1,h2,h3⟩:=he;refine⟨⟨_,_,rfl,.inl rfl,fun w hw q=>?_⟩,by rw[zn h1,zn h2,zn h3]; simp⟩;have q2:=q.2;revert q2;simp only[List.mem_cons,List.not_mem_nil,or_false] at hw;cases (x.N==1)<;>rcases hw with rfl | rfl | rfl | rfl | rfl | rfl | rfl<;>decide
  have b3:(x.Kind==3)=false:=beq_eq_false_iff_ne.2 k3;simp only[b3,Bool.false_eq_true,if_false] at he ⊢;by_cases k4:x.Kind=4
  ·simp only[k4,beq_self_eq_true,if_true,Bool.and_eq_true] at he ⊢;obtain⟨h0,-,-,h1,h2,h3⟩:=he;exact⟨Qab0 h0 [],by rw[zn h1,zn h2,zn h3]; simp⟩
  have b4:(x.Kind==4)=false:=beq_eq_false_iff_ne.2 k4;simp only[b4,Bool.false_eq_true,if_false] at he ⊢;by_cases k7:x.Kind=7
  ·have c5:(x.Kind==5)=false:=by rw[k7]; rfl
   have c6:(x.Kind==6)=false:=by rw[k7]; rfl
   rw[c5,c6] at he;simp only[k7,beq_self_eq_true,if_true,Bool.false_eq_true,if_false,Bool.and_eq_true] at he ⊢;obtain⟨-,-,-,h1,h2,h3⟩:=he;refine⟨⟨_,_,rfl,.inl rfl,fun w hw q=>?_⟩,by rw[zn h1,zn h2,zn h3]; simp⟩;have q2:=q.2;revert q2;simp only[List.mem_cons,List.not_mem_nil,or_false] at hw;rcases hw with rfl | rfl | rfl | rfl | rfl | rfl | rfl<;>decide
  have b7:(x.Kind==7)=false:=beq_eq_false_iff_ne.2 k7;simp only[b7,Bool.false_eq_true,if_false] at he ⊢;by_cases k5:x.Kind=5
  ·simp only[k5,beq_self_eq_true,if_true,Bool.and_eq_true] at he ⊢;obtain⟨hw,hl,hex,-,-,h2,h3⟩:=he;obtain⟨y,hy⟩:=List.length_eq_one_iff.1 (by simpa using hl:x.L.length=1);have hy3:Qhz y=true:=by rw[hy,Qbf,Bool.and_eq_true] at hex; exact hex.1
   have e1:nns x.L=nn y:=by rw[hy]; simp[nns]
   obtain⟨i1,i2⟩:=ih y (by omega) hy3;rw[hy,Qwu,← hy,e1,zn h2,zn h3];exact⟨i1.app,by simp; omega⟩
  have b5:(x.Kind==5)=false:=beq_eq_false_iff_ne.2 k5;simp only[b5,Bool.false_eq_true,if_false] at he ⊢;by_cases k6:x.Kind=6
  ·simp only[k6,beq_self_eq_true,if_true,Bool.and_eq_true] at he ⊢;obtain⟨hw,-,hex,-,-,h2,h3⟩:=he;have hall:∀ (l:List Qab) (b:Bool),nns l≤n→Qbf l=true→nns l≤(Qmo l b).length:=by
    intro l
    induction l with
    | nil=>intro b _ _; simp[nns]
    | cons z l ihl =>
     intro b hz hp;rw[nns] at hz ⊢;rw[Qbf,Bool.and_eq_true] at hp;have:=(ih z (by omega) hp.1).2;have:=ihl true (by omega) hp.2;rw[Qmo,List.length_append,List.length_append]; omega
   have:=hall x.L false (by omega) hex;rw[zn h2,zn h3];exact⟨Qab0 hw _,by simp; omega⟩
  have b6:(x.Kind==6)=false:=beq_eq_false_iff_ne.2 k6;simp only[b6,Bool.false_eq_true,if_false] at he
theorem Qagp(n:Nat)(x:Qab){l:List Qaa}(h:kd l≠7):Qk6 n x l = .ok x l:=by
 cases n with
 | zero=>rfl
 | succ n=>rw[Qk6,if_neg h]
def Takes(f:Nat)(x:Qab):Prop:=∀ T,kd T≠8→∃ y l1 d,Qd9 (Qll f) (Qeg x++T) = .ok y l1∧d+T.length≤l1.length∧∀ m,Qk6 (m+d) y l1=Qk6 m x T
theorem Takes.expr{f:Nat}{x:Qab}(h:Takes f x){T:List Qaa}(h7:kd T≠7)(h8:kd T≠8):Qll (f+1) (Qeg x++T) = .ok x T:=by
 obtain⟨y,l1,d,h1,h2,h3⟩:=h T h8;rw[Qll,h1,Rs.bind];obtain⟨m,hm⟩:∃ m,l1.length=m+d:=⟨l1.length-d,by omega⟩;rw[hm,h3,Qagp m x h7]
theorem Qagq{f:Nat}(a:List Qab)(hl:a.length≤3)(ha:∀ x ∈ a,Beg (Qeg x)∧∀ T,kd T≠7→kd T≠8→Qll f (Qeg x++T) = .ok x T)(T:List Qaa):Qlk (Qll f) (Qmo a false++(zt 9 [] 0::T)) = .ok a T:=by
 have c9:∀ r,kd (zt 9 [] 0::r)=9:=fun _=>rfl
 have c10:∀ r,kd (zt 10 [] 0::r)=10:=fun _=>rfl
 have n9:∀ (x:Qab),Beg (Qeg x)→∀ r,kd (Qeg x++r)≠9:=fun x hb r e=>by
  have:=(hb.app (S:=r)).kd;omega
 match a,hl,ha with
 | [],_,_ =>
  rw[Qmo,List.nil_append,Qlk,if_pos (c9 _)]; rfl
 | [x],_,ha =>
  obtain⟨b,t⟩:=ha x (by simp);simp only[Qmo,Bool.false_eq_true,if_false,List.nil_append,List.append_nil];rw[Qlk,if_neg (n9 x b _),t _ (by rw[c9]; decide) (by rw[c9]; decide),Rs.bind,if_neg (by rw[c9]; decide),Qg6];rfl
 | [x,y],_,ha =>
  obtain⟨b,t⟩:=ha x (by simp);obtain⟨b2,t2⟩:=ha y (by simp);simp only[Qmo,Bool.false_eq_true,if_false,if_true,List.nil_append,List.append_nil,List.append_assoc,List.cons_append];rw[Qlk,if_neg (n9 x b _),t _ (by rw[c10]; decide) (by rw[c10]; decide),Rs.bind,if_pos (c10 _),List.tail_cons,t2 _ (by rw[c9]; decide) (by rw[c9]; decide),Rs.bind,if_neg (by rw[c9]; decide),Qg6];rfl
 | [x,y,z],_,ha =>
  obtain⟨b,t⟩:=ha x (by simp);obtain⟨b2,t2⟩:=ha y (by simp);obtain⟨b3,t3⟩:=ha z (by simp);simp only[Qmo,Bool.false_eq_true,if_false,if_true,List.nil_append,List.append_nil,List.append_assoc,List.cons_append];rw[Qlk,if_neg (n9 x b _),t _ (by rw[c10]; decide) (by rw[c10]; decide),Rs.bind,if_pos (c10 _),List.tail_cons,t2 _ (by rw[c10]; decide) (by rw[c10]; decide),Rs.bind,if_pos (c10 _),List.tail_cons,t3 _ (by rw[c9]; decide) (by rw[c9]; decide),Rs.bind,Qg6];rfl
theorem Qado:∀ n f (x:Qab),nn x≤n→n≤f+1→Qhz x=true→Takes f x:=by
 intro n
 induction n with
 | zero=>intro f x h; have:=Qjk x; omega
 | succ n ih =>
  intro f x h hf he T h8;rw[Qf4] at h;rw[Qsk];rw[Qsh] at he;have nl:∀ {l:List UInt8},(l==[])=true→l=[]:=fun h=>by simpa using h
  have ni:∀ {n:Int},(n==0)=true→n=0:=fun h=>by simpa using h
  obtain⟨k,s,t,v,a,b,c⟩:=x;simp only at h he ⊢;by_cases k1:k=1
  ·subst k1;simp only[beq_self_eq_true,if_true,Bool.and_eq_true] at he ⊢;obtain⟨-,e1,e2,h1,h2,h3⟩:=he;rw[nl e1,ni e2,Qdo h1,Qdo h2,Qdo h3];refine⟨_,T,0,?_,by omega,fun m=>rfl⟩;rw[Qd9,if_pos (by rfl)]; rfl
  have b1:(k==1)=false:=beq_eq_false_iff_ne.2 k1;simp only[b1,Bool.false_eq_true,if_false] at he ⊢;by_cases k2:k=2
  ·subst k2;simp only[beq_self_eq_true,if_true,Bool.and_eq_true] at he ⊢;obtain⟨e1,e2,h1,h2,h3⟩:=he;rw[nl e1,nl e2,Qdo h1,Qdo h2,Qdo h3];refine⟨_,T,0,?_,by omega,fun m=>rfl⟩;rw[Qd9,if_neg (by simp),if_pos (by rfl)]; rfl
  have b2:(k==2)=false:=beq_eq_false_iff_ne.2 k2;simp only[b2,Bool.false_eq_true,if_false] at he ⊢;by_cases k3:k=3
  ·subst k3;simp only[beq_self_eq_true,if_true,Bool.and_eq_true] at he ⊢;obtain⟨e0,e1,e2,h1,h2,h3⟩:=he;rw[nl e1,nl e2,Qdo h1,Qdo h2,Qdo h3];refine⟨_,T,0,?_,by omega,fun m=>rfl⟩;by_cases hv:v=1
   ·subst hv;rw[Qd9,if_neg (by simp),if_neg (by simp),if_pos (by rfl)]; rfl
   ·have e:(v==1)=false:=beq_eq_false_iff_ne.2 hv;rw[e,Bool.or_false] at e0;rw[ni e0];show Qd9 (Qll f) (zt 4 Q0a 0::T)=_;rw[Qd9,if_neg (by simp),if_neg (by simp),if_neg (by rw[Qed]; decide),if_pos (by rfl)]; rfl
  have b3:(k==3)=false:=beq_eq_false_iff_ne.2 k3;simp only[b3,Bool.false_eq_true,if_false] at he ⊢;have nW:∀ r,Qfu s=true→Qd9 (Qll f) (zt 4 s 0::r)=(Qg4 (zt 4 s 0::r)).bind fun s l1=>if kd l1=8 then(Qlk (Qll f) l1.tail).bind fun xs l2 =>.ok ⟨6,s,[],0,xs,[],[]⟩ l2 else .ok ⟨4,s,[],0,[],[],[]⟩ l1:=fun r hs=>by
   rw[Qd9,if_neg (by simp),if_neg (by simp),if_neg (by rw[Q5i hs (by simp[kws])]; decide),if_neg (by rw[Q5i hs (by simp[kws])]; decide),if_neg (by rw[Q5i hs (by simp[kws])]; decide)]
  by_cases k4:k=4
  ·subst k4;simp only[beq_self_eq_true,if_true,Bool.and_eq_true] at he ⊢;obtain⟨e0,e1,e2,h1,h2,h3⟩:=he;rw[nl e1,ni e2,Qdo h1,Qdo h2,Qdo h3];refine⟨_,T,0,?_,by omega,fun m=>rfl⟩;rw[List.cons_append,List.nil_append,nW _ e0,Qvx e0,Rs.bind,if_neg h8]
  have b4:(k==4)=false:=beq_eq_false_iff_ne.2 k4;simp only[b4,Bool.false_eq_true,if_false] at he ⊢;by_cases k7:k=7
  ·subst k7;simp only[beq_self_eq_true,if_true,Bool.false_eq_true,if_false,Bool.and_eq_true,show((7:Int)==5)=false from rfl,show((7:Int)==6)=false from rfl] at he ⊢;obtain⟨e0,e1,e2,h1,h2,h3⟩:=he;rw[nl e1,ni e2,Qdo h1,Qdo h2,Qdo h3];refine⟨_,T,0,?_,by omega,fun m=>rfl⟩;have:Qd9 (Qll f) (zt 4 Qrn 0::zt 8 [] 0::zt 5 s 0::zt 9 [] 0::T)=Qk5 (zt 8 [] 0::zt 5 s 0::zt 9 [] 0::T):=by
    rw[Qd9,if_neg (by simp),if_neg (by simp),if_neg (by rw[Qed]; decide),if_neg (by rw[Qed]; decide),if_pos (by rw[Qed]; decide)]; rfl
   show Qd9 (Qll f) (zt 4 Qrn 0::zt 8 [] 0::zt 5 s 0::zt 9 [] 0::T)=_;rw[this,Qk5,Qg6,Rs.bind,if_pos ⟨rfl,e0⟩,List.tail_cons,Qg6]; rfl
  have b7:(k==7)=false:=beq_eq_false_iff_ne.2 k7;simp only[b7,Bool.false_eq_true,if_false] at he ⊢;by_cases k5:k=5
  ·subst k5;simp only[beq_self_eq_true,if_true,Bool.and_eq_true] at he ⊢;obtain⟨hw,hl,hex,e1,e2,h2,h3⟩:=he;obtain⟨y,rfl⟩:=List.length_eq_one_iff.1 (by simpa using hl:a.length=1);have hy3:Qhz y=true:=by rw[Qbf,Bool.and_eq_true] at hex; exact hex.1
   have hy1:nn y≤n:=by simp only[nns] at h; omega
   rw[nl e1,ni e2,Qdo h2,Qdo h3];obtain⟨z,l1,d,g1,g2,g3⟩:=ih f y hy1 (by omega) hy3 (zt 7 [] 0::zt 4 s 0::T) (show(7:Int)≠8 by decide);rw[Qwu,List.append_assoc];refine⟨z,l1,d+1,g1,?_,fun m=>?_⟩
   ·simp only[List.length_cons] at g2; omega
   ·rw[show m+(d+1)=(m+1)+d by omega,g3,Qk6,if_pos (by rfl),List.tail_cons,Qg6]; rfl
  have b5:(k==5)=false:=beq_eq_false_iff_ne.2 k5;simp only[b5,Bool.false_eq_true,if_false] at he ⊢;by_cases k6:k=6
  ·subst k6;simp only[beq_self_eq_true,if_true,Bool.and_eq_true] at he ⊢;obtain⟨hw,hl,hex,e1,e2,h2,h3⟩:=he;rw[nl e1,ni e2,Qdo h2,Qdo h3];have hall:∀ (l:List Qab),Qbf l=true→∀ y ∈ l,Qhz y=true:=by
    intro l
    induction l with
    | nil=>intro _ y hy; cases hy
    | cons z l ihl =>
     intro hz y hy;rw[Qbf,Bool.and_eq_true] at hz;rcases List.mem_cons.1 hy with rfl | hy
     ·exact hz.1
     ·exact ihl hz.2 y hy
   have hT:=Qagq (f:=f) a (of_decide_eq_true hl) (fun y hy=>by
    have hy1:=Qgj hy;have hp:=hall _ hex y hy;refine⟨(Q5j _ y (Nat.le_refl _) hp).1,fun S s7 s8=>?_⟩;obtain⟨g,rfl⟩:∃ g,f=g+1:=⟨f-1,by have:=Qjk y; omega⟩;exact(ih g y (by omega) (by omega) hp).expr s7 s8) T
   refine⟨_,T,0,?_,by omega,fun m=>rfl⟩;rw[show(zt 4 s 0::zt 8 [] 0::(Qmo a false++[zt 9 [] 0]))++T=zt 4 s 0::zt 8 [] 0::(Qmo a false++(zt 9 [] 0::T)) by simp,nW _ hw,Qvx hw,Rs.bind,if_pos (by rfl),List.tail_cons,hT];rfl
  have b6:(k==6)=false:=beq_eq_false_iff_ne.2 k6;simp only[b6,Bool.false_eq_true,if_false] at he
theorem Qak6{x:Qab}(he:Qhz x=true){T:List Qaa}(h7:kd T≠7)(h8:kd T≠8):ex20 (Qeg x++T) = .ok x T:=by
 have:=(Q5j _ x (Nat.le_refl _) he).2;unfold ex20;exact(Qado (nn x) _ x (Nat.le_refl _) (by rw[List.length_append]; omega) he).expr h7 h8
theorem Qrt{x:Qab}(he:Qhz x=true)(T:List Qaa):Qdi (Qeg x++(zt 3 [] 0::T)) = .ok x T:=by
 have e:=Qak6 he (T:=zt 3 [] 0::T) (show(3:Int)≠7 by decide) (show(3:Int)≠8 by decide);rw[Qdi,e,Rs.bind,Qg6]; rfl
theorem Qab1(w:List UInt8)(T:List Qaa):Qo9 w (zt 4 w 0::T) = .ok () T:=by
 rw[Qo9,if_pos (by rw[Qed]; simp)]; rfl
theorem Q0r(w:List UInt8)(T:List Qaa):endW w (Qei w++T) = .ok () T:=by
 show endW w (zt 2 [] 0::zt 4 w 0::zt 3 [] 0::T)=_;rw[endW,Qg6,Rs.bind,Qab1,Rs.bind,Qg6]; rfl
theorem Qif(w v:List UInt8)(T:List Qaa):Qde w (Qei v++T)=(v==w):=rfl
theorem Qagr{f:Nat}{i o:Bool}{out:List Qab}{S:List Qaa}(hf:0<f)(hs:((i&&Qde wEnd S)||(o&&Qde Qes S))=true):Qd3 f i o out S = .ok out S:=by
 obtain⟨g,rfl⟩:∃ g,f=g+1:=⟨f-1,by omega⟩;have h2:kd S=2:=by
  have:Qde wEnd S=true∨Qde Qes S=true:=by
   cases h1:Qde wEnd S<;>cases h2:Qde Qes S<;>rw[h1,h2] at hs<;>simp at hs ⊢
  rcases this with h | h<;>(unfold Qde at h; rw[Bool.and_eq_true] at h; simpa using h.1)
 rw[Qd3,if_neg (Qdj (by decide) h2),if_neg (by rw[h2]; decide),if_pos hs]
theorem Qadp{out:List Qab}{t:List UInt8}(h:litB out.reverse=false):Qjm out t=out++[⟨8,[],t,0,[],[],[]⟩]:=by
 unfold Qjm;cases hx:out.getLast? with
 | none=>rfl
 | some y =>
  simp only;rw[if_neg];intro e;have:out.reverse.head? = some y:=by rw[List.head?_reverse]; exact hx
  cases hr:out.reverse with
  | nil=>rw[hr] at this; cases this
  | cons z q =>
   rw[hr] at this h;simp at this; subst this;rw[litB,e] at h; cases h
def Qamm(f:Nat)(x:Qab):Prop:=∃ A,Qaai x=zt 2 [] 0::A∧∀ S,(A++S).length<f→isW wEnd (A++S)=false∧isW Qes (A++S)=false∧kd (A++S)≠3∧actR (fun i o l=>Qd3 f i o [] l) (A++S) = .ok x S
def BlkOk(n:Nat):Prop:=∀ (l:List Qab) (b:Bool) (f:Nat) (i o:Bool) (out:List Qab) (T:List Qaa),nns l≤n→Qby l b=true→(litB l=true→litB out.reverse=false)→(Qax l++T).length<f→∃ f', T.length<f' ∧ Qd3 f i o out (Qax l++T)=Qd3 f' i o (out++l) T
theorem BlkOk.stop{n:Nat}(h:BlkOk n){l:List Qab}{f:Nat}{i o:Bool}{T:List Qaa}(hl:nns l≤n)(hb:Qby l true=true)(hf:(Qax l++T).length<f)(hs:((i&&Qde wEnd T)||(o&&Qde Qes T))=true):Qd3 f i o [] (Qax l++T) = .ok l T:=by
 obtain⟨f', h1,h2⟩:=h l true f i o [] T hl hb (fun _=>rfl) hf;rw[h2,List.nil_append];exact Qagr (by omega) hs
theorem Qamn{n:Nat}(ih:BlkOk n)(f:Nat)(x:Qab)(hx:nn x≤n+1)(hs:Qlj x=true)(h8:x.Kind≠8):Qamm f x:=by
 rw[Qf4] at hx;rw[Qnb] at hs;have b8:(x.Kind==8)=false:=beq_eq_false_iff_ne.2 h8;unfold Qamm;rw[Qvw];obtain⟨k,s,t,v,a,b,c⟩:=x;simp only[b8,Bool.false_eq_true,if_false] at hx hs h8 b8 ⊢;have nl:∀ {l:List UInt8},(l==[])=true→l=[]:=fun h=>by simpa using h
 have ni:∀ {n:Int},(n==0)=true→n=0:=fun h=>by simpa using h
 have one:(a.length==1&&Qbf a)=true→∃ y,a=[y]∧Qhz y=true:=fun h1=>by
  rw[Bool.and_eq_true] at h1;obtain⟨y,hy⟩:=List.length_eq_one_iff.1 (by simpa using h1.1:a.length=1);have hex:=h1.2;rw[hy,Qbf,Bool.and_eq_true] at hex;exact⟨y,hy,hex.1⟩
 have nW:∀ (w v:List UInt8) (r:List Qaa),(v==w)=false→isW w (zt 4 v 0::r)=false:=fun w v r h=>by rw[Qed]; exact h
 by_cases k9:k=9
 ·subst k9;simp only[beq_self_eq_true,if_true,Bool.true_or,Bool.and_eq_true] at hs ⊢;obtain⟨h1,e1,e2,e3,h2,h3⟩:=hs;obtain⟨y,rfl,hy⟩:=one (by rw[Bool.and_eq_true]; exact h1);rw[nl e1,nl e2,ni e3,Qdo h2,Qdo h3];have hB:=(Q5j _ y (Nat.le_refl _) hy).1;refine⟨Qeg y++[zt 3 [] 0],rfl,fun S hf=>?_⟩;rw[List.append_assoc];have hB' : Beg (Qeg y++([zt 3 [] 0]++S)):=hB.app;have hk:=hB'.kd;refine⟨hB'.noW (by simp),hB'.noW (by simp),by omega,?_⟩;rw[actR,hB'.noW (by simp),hB'.noW (by simp),hB'.noW (by simp),hB'.noW (by simp)];simp only[Bool.false_eq_true,if_false];rw[List.cons_append,List.nil_append,Qrt hy]; rfl
 have b9:(k==9)=false:=beq_eq_false_iff_ne.2 k9;simp only[b9,Bool.false_eq_true,if_false,Bool.false_or] at hs ⊢;by_cases k13:k=13
 ·subst k13;simp only[show((13:Int)==10)=false from rfl,show((13:Int)==11)=false from rfl,show((13:Int)==12)=false from rfl,Bool.false_or,beq_self_eq_true,if_true,Bool.false_eq_true,if_false,Bool.and_eq_true] at hs ⊢;obtain⟨hn,h1,e2,e3,h2,h3⟩:=hs;obtain⟨y,rfl,hy⟩:=one (by rw[Bool.and_eq_true]; exact h1);rw[nl e2,ni e3,Qdo h2,Qdo h3];refine⟨zt 4 wUse 0::zt 4 s 0::(Qeg y++[zt 3 [] 0]),rfl,fun S hf=>⟨rfl,rfl,by show(4:Int)≠3; decide,?_⟩⟩;have e:(zt 4 wUse 0::zt 4 s 0::(Qeg y++[zt 3 [] 0]))++S=zt 4 wUse 0::zt 4 s 0::(Qeg y++(zt 3 [] 0::S)):=by simp
  rw[e,actR,if_neg (by rw[Qed]; decide),if_neg (by rw[Qed]; decide),if_neg (by rw[Qed]; decide),if_pos (by rw[Qed]; decide),List.tail_cons,Qvx hn,Rs.bind,Qrt hy]; rfl
 have b13:(k==13)=false:=beq_eq_false_iff_ne.2 k13;simp only[b13,Bool.false_eq_true,if_false] at hs ⊢;by_cases k10:k=10
 ·subst k10;simp only[beq_self_eq_true,if_true,Bool.and_eq_true] at hs;obtain⟨h1,⟨h2,h3⟩,e1,e2,e3⟩:=hs;obtain⟨y,rfl,hy⟩:=one (by rw[Bool.and_eq_true]; exact h1);rw[nl e1,nl e2,ni e3];refine⟨zt 4 wIf 0::(Qeg y++(zt 3 [] 0::(Qax b++((if zl c then [] else Qei Qes++Qax c)++Qei wEnd)))),?_,fun S hf=>?_⟩
  ·show zt 2 [] 0::([zt 4 wIf 0]++(Qeg y++[zt 3 [] 0]))++_=_;simp
  have e:(zt 4 wIf 0::(Qeg y++(zt 3 [] 0::(Qax b++((if zl c then [] else Qei Qes++Qax c)++Qei wEnd)))))++S=zt 4 wIf 0::(Qeg y++(zt 3 [] 0::(Qax b++((if zl c then [] else Qei Qes++Qax c)++(Qei wEnd++S))))):=by simp
  rw[e] at hf ⊢;refine⟨rfl,rfl,by show(4:Int)≠3; decide,?_⟩;simp only[List.length_cons,List.length_append] at hf;rw[actR,if_pos (by rw[Qed]; decide),List.tail_cons,Qrt hy,Rs.bind];by_cases hz:zl c=true
  ·rw[if_pos hz] at hf ⊢;rw[Qdo hz];rw[List.nil_append,ih.stop (by omega) h2 (by simp only[List.length_append]; omega) (by rw[Qif]; rfl),Rs.bind,if_neg (by rw[Qif]; decide),Q0r]; rfl
  ·rw[if_neg hz] at hf ⊢;simp only[List.length_append] at hf;rw[List.append_assoc,ih.stop (by omega) h2 (by simp only[List.length_append]; omega) (by rw[Qif,Qif]; rfl),Rs.bind,if_pos (by rw[Qif]; decide),Q0r,Rs.bind,ih.stop (by omega) h3 (by simp only[List.length_append]; omega) (by rw[Qif]; rfl),Rs.bind,Q0r]; rfl
 have b10:(k==10)=false:=beq_eq_false_iff_ne.2 k10;simp only[b10,Bool.false_eq_true,if_false] at hs;by_cases k11:k=11
 ·subst k11;simp only[beq_self_eq_true,if_true,Bool.true_or,Bool.and_eq_true] at hs;obtain⟨hn,h1,h2,e2,e3,h3⟩:=hs;obtain⟨y,rfl,hy⟩:=one (by rw[Bool.and_eq_true]; exact h1);rw[nl e2,ni e3,if_pos h3,Qdo h3];refine⟨zt 4 Qxu 0::zt 4 s 0::zt 4 wIn 0::(Qeg y++(zt 3 [] 0::(Qax b++Qei wEnd))),?_,fun S hf=>?_⟩
  ·show zt 2 [] 0::([zt 4 Qxu 0,zt 4 s 0,zt 4 wIn 0]++(Qeg y++[zt 3 [] 0]))++_=_;simp
  have e:(zt 4 Qxu 0::zt 4 s 0::zt 4 wIn 0::(Qeg y++(zt 3 [] 0::(Qax b++Qei wEnd))))++S=zt 4 Qxu 0::zt 4 s 0::zt 4 wIn 0::(Qeg y++(zt 3 [] 0::(Qax b++(Qei wEnd++S)))):=by simp
  rw[e] at hf ⊢;refine⟨rfl,rfl,by show(4:Int)≠3; decide,?_⟩;simp only[List.length_cons,List.length_append] at hf;rw[actR,if_neg (by rw[Qed]; decide),if_pos (by rw[Qed]; decide),List.tail_cons,Qvx hn,Rs.bind,Qab1,Rs.bind,Qrt hy,Rs.bind,ih.stop (by omega) h2 (by simp only[List.length_append]; omega) (by rw[Qif]; rfl),Rs.bind,Q0r]; rfl
 have b11:(k==11)=false:=beq_eq_false_iff_ne.2 k11;simp only[b11,Bool.false_or] at hs;by_cases k12:k=12
 ·subst k12;simp only[beq_self_eq_true,if_true,Bool.and_eq_true] at hs;obtain⟨hn,h1,h2,e2,e3,h3⟩:=hs;obtain⟨y,rfl,hy⟩:=one (by rw[Bool.and_eq_true]; exact h1);rw[nl e2,ni e3,if_pos h3,Qdo h3];refine⟨zt 4 wLet 0::zt 4 s 0::zt 11 [] 0::(Qeg y++(zt 3 [] 0::(Qax b++Qei wEnd))),?_,fun S hf=>?_⟩
  ·show zt 2 [] 0::([zt 4 wLet 0,zt 4 s 0,zt 11 [] 0]++(Qeg y++[zt 3 [] 0]))++_=_;simp
  have e:(zt 4 wLet 0::zt 4 s 0::zt 11 [] 0::(Qeg y++(zt 3 [] 0::(Qax b++Qei wEnd))))++S=zt 4 wLet 0::zt 4 s 0::zt 11 [] 0::(Qeg y++(zt 3 [] 0::(Qax b++(Qei wEnd++S)))):=by simp
  rw[e] at hf ⊢;refine⟨rfl,rfl,by show(4:Int)≠3; decide,?_⟩;simp only[List.length_cons,List.length_append] at hf;rw[actR,if_neg (by rw[Qed]; decide),if_neg (by rw[Qed]; decide),if_pos (by rw[Qed]; decide),List.tail_cons,Qvx hn,Rs.bind,Qg6,Rs.bind,Qrt hy,Rs.bind,ih.stop (by omega) h2 (by simp only[List.length_append]; omega) (by rw[Qif]; rfl),Rs.bind,Q0r]; rfl
 have b12:(k==12)=false:=beq_eq_false_iff_ne.2 k12;rw[b12] at hs; simp at hs
theorem Qamo:∀ n,BlkOk n:=by
 intro n
 induction n with
 | zero =>
  intro l b f i o out T h hb hl hf;cases l with
  | nil=>exact⟨f,by simpa [Qax] using hf,by rw[Qax,List.nil_append,List.append_nil]⟩
  | cons x l=>have:=Qjk x; rw[nns] at h; omega
 | succ n ih =>
  intro l
  induction l with
  | nil=>intro b f i o out T h hb hl hf; exact⟨f,by simpa [Qax] using hf,by rw[Qax,List.nil_append,List.append_nil]⟩
  | cons x l ihl =>
   intro b f i o out T h hb hl hf;rw[nns] at h;rw[Qby,Bool.and_eq_true,Bool.and_eq_true] at hb;obtain⟨hs,hbad,hbl⟩:=hb;rw[Qax,List.append_assoc] at hf ⊢;obtain⟨g,rfl⟩:∃ g,f=g+1:=⟨f-1,by omega⟩;by_cases k8:x.Kind=8
   ·have hlit:litB (x::l)=true:=by rw[litB,k8]; rfl
    have ho:=hl hlit;rw[Q71,k8] at hbad;simp only[beq_self_eq_true,Bool.true_and,Bool.not_eq_true', Bool.or_eq_false_iff] at hbad;have ex:x=⟨8,[],x.Text,0,[],[],[]⟩:=by
     rw[Qnb,k8] at hs;simp only[beq_self_eq_true,if_true,Bool.and_eq_true] at hs;obtain⟨k,s,t,v,a,b,c⟩:=x;obtain⟨-,-,e1,e2,h1,h2,h3⟩:=hs;simp only at k8 e1 e2 h1 h2 h3 ⊢;rw[k8,show s=[] by simpa using e1,show v=0 by simpa using e2,Qdo h1,Qdo h2,Qdo h3]
    have e8:(x.Kind==8)=true:=by rw[k8]; rfl
    rw[Qvw,if_pos e8] at hf ⊢;obtain⟨f', q1,q2⟩:=ihl b g i o (out++[x]) T (by have:=Qjk x; omega) hbl (fun q=>by rw[hbad.1] at q; cases q) (by simp only[List.length_append,List.length_cons,List.length_nil] at hf ⊢; omega);refine⟨f', q1,?_⟩;rw[List.cons_append,List.nil_append,Qd3,if_neg (List.cons_ne_nil _ _),if_pos (by rfl)];show Qd3 g i o (Qjm out x.Text) (Qax l++T)=_;rw[Qadp ho,← ex,q2,List.append_assoc]; rfl
   ·obtain⟨A,e,hA⟩:=Qamn ih g x (by omega) hs k8;rw[e] at hf ⊢;simp only[List.cons_append,List.length_cons] at hf ⊢;obtain⟨a1,a2,a3,a4⟩:=hA (Qax l++T) (by omega);have hnl:litB (out++[x]).reverse=false:=by
     rw[List.reverse_append];show(x.Kind==8)=false;exact beq_eq_false_iff_ne.2 k8
    obtain⟨f', q1,q2⟩:=ihl b g i o (out++[x]) T (by have:=Qjk x; omega) hbl (fun _=>hnl) (by simp only[List.length_append] at hf ⊢; omega);refine⟨f', q1,?_⟩;have n1:Qde wEnd (zt 2 [] 0::(A++(Qax l++T)))=false:=a1;have n2:Qde Qes (zt 2 [] 0::(A++(Qax l++T)))=false:=a2;rw[Qd3,if_neg (List.cons_ne_nil _ _),if_neg (show ¬ kd (zt 2 [] 0::(A++(Qax l++T)))=1 from(show ¬ (2:Int)=1 by decide)),n1,n2,Bool.and_false,Bool.and_false,if_neg (by decide),if_pos (by rfl),List.tail_cons,if_neg a3,a4,Rs.bind,q2,List.append_assoc]; rfl
theorem Qadq(l:List Qab)(hb:Qby l false=true):bl20 false false (Qax l) = .ok l []:=by
 obtain⟨f', h1,h2⟩:=Qamo (nns l) l false ((Qax l).length+1) false false [] [] (Nat.le_refl _) hb (fun _=>rfl) (by simp);rw[List.append_nil,List.nil_append] at h2;obtain⟨g,rfl⟩:∃ g,f' = g+1:=⟨f' - 1,by omega⟩;rw[bl20,h2,Qd3,if_pos rfl]
theorem Qags(l:List Qab)(ho:allL okNd l)(hi:isP l=true)(h6:(Qb3 l).length≤65536):Qf3 (Qb3 l)=(l,0,0):=by
 unfold isP at hi;rw[Bool.and_eq_true,Bool.and_eq_true] at hi;obtain⟨h1,h2,hb⟩:=hi;have h1:=of_decide_eq_true h1;have h2:=of_decide_eq_true h2;obtain⟨L,e1,e2⟩:=Q8g l ho hb h6;have hz:=Qaml false false L;rw[e2,Qadq l hb] at hz;unfold Qf3;rw[e1];simp only[if_true];cases hx:bl20 false false L with
 | bad r=>rw[hx] at hz; cases hz
 | ok out r =>
  rw[hx] at hz;injection hz with z1 z2
  subst z1;simp only;rw[if_neg (by omega),if_neg (by omega)]
def txtP(s:List UInt8):Prop:=(∀ m,s.length≤m→utfF m s=true)∧s.any (· == 13)=false
structure gT (t:Qaa):Prop where
 len:t.Text.length≤1000
 nz:t.Kind≠6→t.N=0
 lit:t.Kind=1→t.Text≠[]∧hasB t.Text=false
 wrd:t.Kind=4→Qd2 t.Text=true
 txt:t.Kind=5→txtP t.Text
 num:t.Kind=6→t.Text=[]∧Qso t.N
theorem kx(a b:Int)(hn:decide (a=b)=false){P:Prop}(h:a=b):P:=absurd h (of_decide_eq_false hn)
theorem Q5k:∀ l:List UInt8,hasB (l.take (fnd 123 123 l))=false∧(fnd 123 123 l<l.length→endB (l.take (fnd 123 123 l))=false)
 | []=>⟨rfl,fun _=>rfl⟩
 | c::r=>by
  rw[fnd];by_cases h:two 123 123 (c::r)=true
  ·rw[if_pos h];exact⟨rfl,fun _=>rfl⟩
  ·rw[if_neg h];obtain⟨i1,i2⟩:=Q5k r;rw[Nat.add_comm 1,List.take_succ_cons];cases r with
   | nil =>
    rw[List.take_nil];refine⟨by simp[hasB],fun q=>?_⟩;simp[fnd] at q
   | cons d r =>
    by_cases h0:fnd 123 123 (d::r)=0
    ·rw[h0,List.take_zero];refine⟨by simp[hasB],fun q=>?_⟩;have h2:two 123 123 (d::r)=true:=by
      rw[fnd] at h0;by_cases q:two 123 123 (d::r)=true
      ·exact q
      ·rw[if_neg q] at h0; omega
     have hd:d=123:=by
      cases r with
      | nil=>simp[two] at h2
      | cons e r=>simp[two] at h2; exact h2.1
     have hc:¬ c=123:=fun e=>h (by rw[e,hd]; rfl)
     simp[endB,hc]
    ·obtain⟨m,hm⟩:∃ m,fnd 123 123 (d::r)=m+1:=⟨fnd 123 123 (d::r)-1,by omega⟩;rw[hm] at i1 i2 ⊢;rw[List.take_succ_cons] at i1 i2 ⊢;have hcd:(c==123&&d==123)=false:=by
      have:two 123 123 (c::d::r)=(c==123&&d==123):=rfl;rw[this] at h;simpa using h
     refine⟨?_,fun q=>?_⟩
     ·rw[hasB,i1];simp only[List.head?_cons,Bool.or_false];simpa using hcd
     ·have:=i2 (by simp only[List.length_cons] at q ⊢; omega);unfold endB at this ⊢
      rwa [List.getLast?_cons_cons]
theorem Qak7:txtP []:=⟨fun m _=>by cases m<;>rfl,rfl⟩
theorem Qagt{c:UInt8}{t:List UInt8}(hc:c.toNat<128)(h13:c≠13)(h:txtP t):txtP (c::t):=by
 obtain⟨h1,h2⟩:=h;refine⟨fun m hm=>?_,?_⟩
 ·cases m with
  | zero=>simp at hm
  | succ m =>
   have hn1:Qbp (c::t)=(c.toNat,1):=by rw[Qbp]; unfold Qf5; rw[if_pos hc]
   rw[Qrq m _ (List.cons_ne_nil _ _),hn1,if_neg (by intro q; have:=q.2; have:=q.1; simp only at this; omega)];exact h1 m (by simp at hm; omega)
 ·rw[List.any_cons,h2,Bool.or_false,beq_eq_false_iff_ne]; exact h13
theorem Q0s:∀ (n:Nat) (l:List UInt8) (q:List UInt8×Nat),quoP n l=some q→txtP q.1
 | 0,l,q,h=>by simp[quoP] at h
 | n+1,[],q,h=>by simp[quoP] at h
 | n+1,c::r,q,h=>by
  rw[Qeb] at h;split at h
  ·cases h; exact Qak7
  split at h
  ·cases r with
   | nil=>cases h
   | cons d r =>
    rw[escR] at h;split at h
    ·rename_i e he;obtain⟨q', h1,rfl⟩:=Option.map_eq_some_iff.1 h;have ih:=Q0s n r q' h1;have he2:e=10∨e=9∨e=34∨e=92:=by
      unfold escP at he;split at he
      ·cases he; exact .inl rfl
      split at he
      ·cases he; exact .inr (.inl rfl)
      split at he
      ·rename_i h3;cases he;rcases h3 with h3 | h3
       ·exact .inr (.inr (.inl h3))
       ·exact .inr (.inr (.inr h3))
      ·cases he
     refine Qagt ?_ ?_ ih<;>rcases he2 with rfl | rfl | rfl | rfl<;>decide
    ·cases h
  split at h
  ·cases h
  ·rename_i h34 h92 hb;obtain⟨q', h1,rfl⟩:=Option.map_eq_some_iff.1 h;have ih:=Q0s n _ q' h1;have hg:¬ ((Qbp (c::r)).1=65533∧(Qbp (c::r)).2=1):=fun k=>hb (.inr (.inr k))
   by_cases hc:128≤c.toNat
   ·obtain⟨w,rest,e,e2,hw2,hwb,hv,hloc⟩:=Quo c r hc hg;have e2' : (Qbp (c::r)).2=w.length:=e2;simp only[e2'] at ih ⊢;rw[e,List.take_left];obtain⟨i1,i2⟩:=ih;refine⟨fun m hm=>?_,?_⟩
    ·rw[List.length_append] at hm;cases m with
     | zero=>omega
     | succ m =>
      have hne:w++q'.1≠[]:=fun z=>by rw[List.append_eq_nil_iff] at z; rw[z.1] at hw2; simp at hw2
      rw[Qrq m _ hne,hloc,if_neg (show ¬ ((Qf5 c r).1=65533∧(Qf5 c r).2=1) from hg),e2,List.drop_left];exact i1 m (by omega)
    ·rw[List.any_append,i2,Bool.or_false,List.any_eq_false];intro b hb2 z;have:=hwb b hb2;have:b=13:=by simpa using z
     subst this;revert this; intro _;have:=hwb 13 hb2;revert this; decide
   ·have hlt:c.toNat<128:=by omega
    have hn1:Qbp (c::r)=(c.toNat,1):=by rw[Qbp]; unfold Qf5; rw[if_pos hlt]
    simp only[hn1] at ih ⊢;have h13:c≠13:=fun z=>hb (.inr (.inl (by rw[hn1,z]; rfl)))
    exact Qagt hlt h13 ih
theorem Qadr{l:List UInt8}{o:Int×List UInt8×Int×Nat}(h:Qwq l=some o)(k:Nat)(hl:l.length≤1000):gT (putT o.1 o.2.1 o.2.2.1 k o.2.2.2):=by
 have h1:=(Qwr h).1;have ht:=Q78 h;have hle:=(Qrr h).2;have hlen:o.2.1.length≤1000:=by omega
 cases l with
 | nil=>cases h
 | cons c r =>
  rw[Qie] at h;split at h
  ·rename_i j hj;cases h;have hj' : j=7∨j=8∨j=9∨j=10∨j=11:=by
    unfold sgP at hj;split at hj
    ·cases hj; omega
    split at hj
    ·cases hj; omega
    split at hj
    ·cases hj; omega
    split at hj
    ·cases hj; omega
    split at hj
    ·cases hj; omega
    ·cases hj
   refine⟨by simp[putT],fun _=>rfl,fun q=>?_,fun q=>?_,fun q=>?_,fun q=>?_⟩<;>(have q:j=_:=q; omega)
  ·split at h
   ·obtain⟨q,hq,rfl⟩:=Option.map_eq_some_iff.1 h;exact⟨hlen,fun _=>rfl,fun q=>kx 5 1 rfl q,fun q=>kx 5 4 rfl q,fun _=>Q0s _ _ _ hq,fun q=>kx 5 6 rfl q⟩
   ·split at h
    ·split at h
     ·rename_i hw;cases h;exact⟨hlen,fun _=>rfl,fun q=>kx 4 1 rfl q,fun _=>hw,fun q=>kx 4 5 rfl q,fun q=>kx 4 6 rfl q⟩
     ·cases h
    ·split at h
     ·split at h
      ·rename_i hn;cases h;refine⟨hlen,fun q=>absurd rfl q,fun q=>kx 6 1 rfl q,fun q=>kx 6 4 rfl q,fun q=>kx 6 5 rfl q,fun _=>⟨rfl,?_⟩⟩;generalize (c::r).take (1+run digB r)=w at hn ⊢;exact(Q62 w (numP w).1 (by rw[← hn])).2
      ·cases h
     ·cases h
def WS(l:List Qaa):Prop:=∀ t ∈ l,gT t∧(t.Kind=1→endB t.Text=false)
theorem WS.snoc{l:List Qaa}(h:WS l){t:Qaa}(ht:gT t)(he:t.Kind=1→endB t.Text=false):WS (l++[t]):=fun u hu=>by
 rcases List.mem_append.1 hu with hu | hu
 ·exact h u hu
 ·simp at hu; subst hu; exact⟨ht,he⟩
theorem Qab2(j:Int)(hj:j≠1∧j≠4∧j≠5∧j≠6)(k m:Nat):gT (putT j [] 0 k m):=⟨by simp[putT],fun _=>rfl,fun q=>absurd q hj.1,fun q=>absurd q hj.2.1,fun q=>absurd q hj.2.2.1,fun q=>absurd q hj.2.2.2⟩
theorem Qagu(s:List UInt8)(hs:s.length≤1000):∀ (n k:Nat) (acc:List Qaa) (y:List Qaa×Nat),WS acc→tokI s n k acc = .inl y→WS y.1
 | 0,k,acc,y,_,h=>by cases h
 | n+1,k,acc,y,ha,h=>by
  rw[tokI] at h;split at h
  ·cases h;exact ha.snoc (Qab2 3 (by decide) _ _) fun q=>kx 3 1 rfl q
  ·split at h
   ·cases h
   ·rename_i o ho;exact Qagu s hs n _ _ y (ha.snoc (Qadr ho _ (by rw[List.length_drop]; omega)) fun q=>absurd q (Qwr ho).1) h
theorem Q8h(s:List UInt8)(hs:s.length≤1000)(k:Nat):0<fnd 123 123 (s.drop k)→gT (putT 1 ((s.drop k).take (fnd 123 123 (s.drop k))) 0 k (fnd 123 123 (s.drop k))):=fun hf=>by
 have hle:=Qxh 123 123 (s.drop k);have hl:((s.drop k).take (fnd 123 123 (s.drop k))).length=fnd 123 123 (s.drop k):=by rw[List.length_take]; omega
 have hd:(s.drop k).length≤1000:=by rw[List.length_drop]; omega
 refine⟨by show((s.drop k).take _).length≤1000; omega,fun _=>rfl,fun _=>⟨fun q=>?_,(Q5k _).1⟩,fun q=>kx 1 4 rfl q,fun q=>kx 1 5 rfl q,fun q=>kx 1 6 rfl q⟩;have q:(s.drop k).take (fnd 123 123 (s.drop k))=[]:=q;rw[q] at hl; simp at hl; omega
def WT(l:List Qaa):Prop:=∀ A t B,l=A++t::B→gT t∧(t.Kind=1→B≠[]→endB t.Text=false)
theorem WS.wt{l:List Qaa}(h:WS l):WT l:=fun A t B e=>by
 have:=h t (by rw[e]; simp);exact⟨this.1,fun k _=>this.2 k⟩
theorem WS.last{l:List Qaa}(h:WS l){t:Qaa}(ht:gT t):WT (l++[t]):=fun A u B e=>by
 by_cases hB:B=[]
 ·subst hB;obtain⟨rfl,e2⟩:=List.append_inj' e rfl;cases e2;exact⟨ht,fun _ q=>absurd rfl q⟩
 ·obtain⟨B', z,rfl⟩:∃ B' z,B=B' ++ [z]:=⟨B.dropLast,B.getLast hB,(List.dropLast_concat_getLast hB).symm⟩;have e3:l++[t]=(A++u::B')++[z]:=by rw[e]; simp
  obtain⟨e4,-⟩:=List.append_inj' e3 rfl;have:=h u (by rw[e4]; simp);exact⟨this.1,fun k _=>this.2 k⟩
theorem WT.nil:WT []:=fun A t B e=>by simp at e
theorem Qagv(s:List UInt8)(hs:s.length≤1000):∀ (n k:Nat) (acc:List Qaa),WS acc→WT (tokO s n k acc).1
 | 0,k,acc,_=>WT.nil
 | n+1,k,acc,ha=>by
  rw[tokO];split
  ·rename_i hlt;have hl:WS (litT s k acc):=by
    unfold litT;split
    ·rename_i h0;exact ha.snoc (Q8h s hs k h0) fun _=>(Q5k _).2 (by rw[List.length_drop]; omega)
    ·exact ha
   split
   ·rename_i y hy;exact Qagv s hs n y.2 y.1 (Qagu s hs _ _ _ y (hl.snoc (Qab2 2 (by decide) _ _) fun q=>kx 2 1 rfl q) hy)
   ·exact WT.nil
  ·unfold litT;split
   ·rename_i h0;exact ha.last (Q8h s hs k h0)
   ·exact ha.wt
theorem Qagw(s:List UInt8)(hs:s.length≤1000):WT (Qcc s).1:=by
 unfold Qcc;split
 ·exact WT.nil
 ·exact Qagv s hs _ 0 [] fun t ht=>by simp at ht
theorem WT.suf{l L:List Qaa}(h:WT L)(hs:l <:+ L):WT l:=fun A t B e=>by
 obtain⟨p,rfl⟩:=hs;exact h (p++A) t B (by rw[e,List.append_assoc])
theorem WT.tail{l:List Qaa}(h:WT l):WT l.tail:=h.suf (List.tail_suffix l)
theorem WT.hd{l:List Qaa}(h:WT l)(hne:l≠[]):gT (hd l)∧(kd l=1→l.tail≠[]→endB (hd l).Text=false):=by
 cases l with
 | nil=>exact absurd rfl hne
 | cons t r=>exact h [] t r rfl
end Go.Proofs.YtagokkpnfceidaaGreatDoor
end
