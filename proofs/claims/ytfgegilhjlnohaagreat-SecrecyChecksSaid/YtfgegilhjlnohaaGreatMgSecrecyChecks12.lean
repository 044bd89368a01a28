/- The proof's texts, part 12 of 13: the walks by a logic in which data are by value, the plain laws, and at the end the law, for every input. -/
import Derived.Test.YtfgegilhjlnohaaGreatMgSecrecyChecks11
import Derived.Lib.SlicesCompact

noncomputable section
namespace Go.Proofs.YtfgegilhjlnohaaGreat
open Go.RowKit
set_option linter.unusedSimpArgs false
set_option linter.unusedVariables false
def Qrr(n:Nat):List Nat :=
 if n<128 then [n] else if n<2048 then [192+n / 64,128+n % 64] else if n<65536 then [224+n / 4096,128+n / 64 % 64,128+n % 64] else [240+n / 262144,128+n / 4096 % 64,128+n / 64 % 64,128+n % 64]
theorem Qam1(l:List Nat)(h:∀ x ∈ l,x<256)(m:List UInt8):(l.map UInt8.ofNat==m)=decide (l=m.map UInt8.toNat):=by
 have key:l.map UInt8.ofNat=m↔l=m.map UInt8.toNat:=by
  constructor
  ·intro e;subst e;rw[List.map_map]
   conv=>lhs; rw[← List.map_id l]
   refine List.map_congr_left fun x hx=>?_
   have:=h x hx;show x=(UInt8.ofNat x).toNat
   rw[UInt8.toNat_ofNat', Nat.mod_eq_of_lt this]
  ·intro e;subst e;rw[List.map_map]
   conv=>rhs; rw[← List.map_id m]
   exact List.map_congr_left fun x _=>by simp
 by_cases he:l.map UInt8.ofNat=m
 ·rw[decide_eq_true (key.1 he),beq_iff_eq]; exact he
 ·rw[decide_eq_false (fun k=>he (key.2 k)),beq_eq_false_iff_ne]; exact he
theorem Qagk(l:List Nat)(h:∀ x ∈ l,x<256):b2s (l.map fun x:Nat=>(x:Int))=some (l.map UInt8.ofNat):=by
 unfold b2s;rw[if_pos]
 ·rw[List.map_map]; rfl
 ·rw[List.all_eq_true];intro n hn;obtain⟨x,hx,rfl⟩:=List.mem_map.1 hn;have:=h x hx;simp only[decide_eq_true_eq];omega
theorem td(n k:Nat):((n:Int).tdiv (k:Int))=((n / k:Nat):Int):=by rw[Int.tdiv_eq_ediv_of_nonneg (by omega)]; rfl
theorem tm(n k:Nat):((n:Int).tmod (k:Int))=((n % k:Nat):Int):=by rw[Int.tmod_eq_emod_of_nonneg (by omega)]; rfl
theorem wrN(n:Nat)(h:n<9000000000000):wr (n:Int)=(n:Int):=Qhh (by omega) (by omega)
theorem u8N(n:Nat)(h:n<256):IntKind.u8.wrap (n:Int)=(n:Int):=Qaqf (by omega) (by omega)
set_option maxRecDepth 20000 in
theorem Qaqi(n:Nat)(h:Qj0 n=true):Qnh (n:Int)=some ((Qrr n).map UInt8.ofNat):=by
 have hn:n≤1114111:=by unfold Qj0 at h; rw[Bool.and_eq_true] at h; exact of_decide_eq_true h.1
 have a1:decide ((n:Int)<128)=decide (n<128):=ltI n 128;have a2:decide ((n:Int)<2048)=decide (n<2048):=ltI n 2048;have a3:decide ((n:Int)<65536)=decide (n<65536):=ltI n 65536;have d64:(n:Int).tdiv 64=((n / 64:Nat):Int):=td n 64;have m64:(n:Int).tmod 64=((n % 64:Nat):Int):=tm n 64;have d4096:(n:Int).tdiv 4096=((n / 4096:Nat):Int):=td n 4096;have d262:(n:Int).tdiv 262144=((n / 262144:Nat):Int):=td n 262144;have w1:∀ a b:Nat,a+b<256→IntKind.u8.wrap (wr ((a:Int)+(b:Int)))=((a+b:Nat):Int):=fun a b h=>by
  rw[Qhh (by omega) (by omega),Qaqf (by omega) (by omega)]; rfl
 rw[Qnh,rIsR,h];simp only[Qad,Bool.not_true,Bool.false_eq_true,if_false,a1,a2,a3,d64,m64,d4096,d262];rw[wrN (n / 64) (by omega),wrN (n / 4096) (by omega),wrN (n / 262144) (by omega)];have t64:(((n / 64:Nat):Int)).tmod 64=((n / 64 % 64:Nat):Int):=tm (n / 64) 64;have t4096:(((n / 4096:Nat):Int)).tmod 64=((n / 4096 % 64:Nat):Int):=tm (n / 4096) 64;rw[t64,t4096];unfold Qrr;by_cases h1:n<128
 ·rw[decide_eq_true h1,if_pos h1,u8N n (by omega)];simp only[if_true];have:=Qagk [n] (by simp; omega);simp only[List.map_cons,List.map_nil] at this;rw[this]; rfl
 rw[decide_eq_false h1,if_neg h1];by_cases h2:n<2048
 ·rw[decide_eq_true h2,if_pos h2];have e1:=w1 192 (n / 64) (by omega);have e2:=w1 128 (n % 64) (by omega);have:=Qagk [192+n / 64,128+n % 64] (by simp; omega);simp only[List.map_cons,List.map_nil] at this;simp only[Bool.false_eq_true,if_false,if_true];rw[show(192:Int)=((192:Nat):Int) from rfl,show(128:Int)=((128:Nat):Int) from rfl,e1,e2,this]; rfl
 rw[decide_eq_false h2,if_neg h2];by_cases h3:n<65536
 ·rw[decide_eq_true h3,if_pos h3];have e1:=w1 224 (n / 4096) (by omega);have e2:=w1 128 (n / 64 % 64) (by omega);have e3:=w1 128 (n % 64) (by omega);have:=Qagk [224+n / 4096,128+n / 64 % 64,128+n % 64] (by simp; omega);simp only[List.map_cons,List.map_nil] at this;simp only[Bool.false_eq_true,if_false,if_true];rw[show(224:Int)=((224:Nat):Int) from rfl,show(128:Int)=((128:Nat):Int) from rfl,e1,e2,e3,this]; rfl
 rw[decide_eq_false h3,if_neg h3];have e0:=w1 240 (n / 262144) (by omega);have e1:=w1 128 (n / 4096 % 64) (by omega);have e2:=w1 128 (n / 64 % 64) (by omega);have e3:=w1 128 (n % 64) (by omega);have:=Qagk [240+n / 262144,128+n / 4096 % 64,128+n / 64 % 64,128+n % 64] (by simp; omega);simp only[List.map_cons,List.map_nil] at this;simp only[Bool.false_eq_true,if_false];rw[show(240:Int)=((240:Nat):Int) from rfl,show(128:Int)=((128:Nat):Int) from rfl,e0,e1,e2,e3,this]; rfl
theorem Qak0(n:Nat)(h:n≤1114111):∀ x ∈ Qrr n,x<256:=by
 unfold Qrr;split
 ·simp; omega
 ·split
  ·simp; omega
  ·split<;>simp<;>omega
theorem Qarv(s:List UInt8)(k m:Nat)(hm:k+m≤s.length)(hs:s.length<9000000000000)(n:Int) :
  ( if(decide (n ≥ 0))=true then
    Qn6 n>>=fun x11 =>
    if x11=true then
     Qnh n>>=fun x12 =>
     cutL s k (wr ((k:Int)+m))>>=fun x13 =>
     some (x12==x13)
    else
     some false
   else
    some false:Option Bool)=some (decide (0≤n)&&(Qj0 n.toNat&&decide (Qrr n.toNat=((s.take (k+m)).drop k).map UInt8.toNat))):=by
 have e:wr ((k:Int)+m)=((k+m:Nat):Int):=by rw[Qhh (by omega) (by omega)]; rfl
 by_cases h:0≤n
 ·obtain⟨v,rfl⟩:∃ v:Nat,n=v:=⟨n.toNat,by omega⟩;rw[decide_eq_true (show(v:Int) ≥ 0 by omega),rIsR,e,Qol (by omega) (by omega) (by omega)];simp only[if_true,Qad,Int.toNat_natCast,Bool.true_and];cases hr:Qj0 v with
  | false=>rfl
  | true =>
   have hv:v≤1114111:=by unfold Qj0 at hr; rw[Bool.and_eq_true] at hr; exact of_decide_eq_true hr.1
   rw[Qaqi v hr];simp only[if_true,Qad,Qam1 _ (Qak0 v hv),Bool.true_and]
 ·rw[decide_eq_false (show ¬ n ≥ 0 from h)]; rfl
theorem wr64(a b:Int)(ha : -3000000≤a)(ha2:a≤3000000)(hb:0≤b)(hb2:b≤255):wr ((wr ((wr (64*a))+(wr b)))-128)=64*a+b-128:=by
 rw[Qhh (n:=64*a) (by omega) (by omega),Qhh (n:=b) (by omega) (by omega),Qhh (n:=64*a+b) (by omega) (by omega),Qhh (by omega) (by omega)]
def addN(a:Int)(c:UInt8):Int:=64*a+c.toNat-128
theorem rL2(s:List UInt8)(k:Nat)(v6:List Int)(m:Nat)(hm:k+m≤s.length)(hm4:m≤4)(hs:s.length<9000000000000):∀ d (i:Nat) (v:Int),i+d=m→1≤i→(i=1 → -300≤v∧v≤300)→(i=2 → -30000≤v∧v≤30000)→(i=3 → -3000000≤v∧v≤3000000) →
  Qep s k v6 m v i=some (((s.drop (k+i)).take d).foldl addN v):=by
 intro d
 induction d with
 | zero =>
  intro i v hi _ _ _ _;rw[Qep,ltI,decide_eq_false (by omega:¬ i<m)];simp
 | succ d ih =>
  intro i v hi hi1 h1 h2 h3;have hk:k+i<s.length:=by omega
  have e1:wr ((k:Int)+i)=((k+i:Nat):Int):=by rw[Qhh (by omega) (by omega)]; rfl
  have hc:=s[k+i].toNat_lt;have hb : -3000000≤v∧v≤3000000:=by omega
  rw[Qep,ltI,decide_eq_true (by omega:i<m),e1,Qba (by omega)];simp only[if_true,Qbc,getE hk,Qad];rw[wr64 v _ hb.1 hb.2 (by omega) (by omega),Qct hk,List.take_succ_cons,List.foldl_cons];exact ih (i+1) (addN v s[k+i]) (by omega) (by omega) (by omega) (by unfold addN; omega) (by unfold addN; omega)
def Q24:List Int:=[0,0,192,224,240]
def numN(c:UInt8)(r:List UInt8)(m:Nat):Int:=(r.take (m-1)).foldl addN ((c.toNat:Int)-(Q24[m]?.getD 0))
def tstB(c:UInt8)(r:List UInt8)(m:Nat):Bool:=decide (0≤numN c r m)&&(Qj0 (numN c r m).toNat&&decide (Qrr (numN c r m).toNat=((c::r).take m).map UInt8.toNat))
theorem rL1(s:List UInt8)(k:Nat)(hk:k<s.length)(hs:s.length<9000000000000)(m:Nat)(h1:1≤m)(h4:m≤4) :
  Qc9 s k Q24 m=if k+m≤s.length then(if tstB s[k] (s.drop (k+1)) m=true then some (.inr (numN s[k] (s.drop (k+1)) m,(m:Int))) else Qc9 s k Q24 ((m+1:Nat):Int)) else some (.inl ()):=by
 have e0:wr ((s.length:Int)-k)=((s.length-k:Nat):Int):=by rw[Qhh (by omega) (by omega)]; omega
 have a4:decide ((m:Int)≤4)=true:=decide_eq_true (by omega);have hc:=s[k].toNat_lt;rw[Qc9,e0,a4];by_cases hm:k+m≤s.length
 ·have a5:decide ((m:Int)≤((s.length-k:Nat):Int))=true:=decide_eq_true (by omega);obtain⟨ld,hld,hl0,hl1⟩:∃ ld:Int,Q24[m]? = some ld∧0≤ld∧ld≤240:=by
   match m,h1,h4 with
   | 1,_,_=>exact⟨0,rfl,by omega,by omega⟩
   | 2,_,_=>exact⟨192,rfl,by omega,by omega⟩
   | 3,_,_=>exact⟨224,rfl,by omega,by omega⟩
   | 4,_,_=>exact⟨240,rfl,by omega,by omega⟩
  have ew:wr ((wr (s[k].toNat:Int))-ld)=(s[k].toNat:Int)-ld:=by rw[Qhh (n:=(s[k].toNat:Int)) (by omega) (by omega),Qhh (by omega) (by omega)]
  have h2:=rL2 s k Q24 m hm h4 hs (m-1) 1 ((s[k].toNat:Int)-ld) (by omega) (by omega) (by omega) (by omega) (by omega);have en:numN s[k] (s.drop (k+1)) m=((s.drop (k+1)).take (m-1)).foldl addN ((s[k].toNat:Int)-ld):=by rw[numN,hld]; rfl
  rw[← en,show((1:Nat):Int)=1 from rfl] at h2;have ht:=Qarv s k m hm hs (numN s[k] (s.drop (k+1)) m);have et:((s.take (k+m)).drop k)=((s[k]::s.drop (k+1)).take m):=by rw[← Qct hk,List.drop_take]; congr 1; omega
  rw[et] at ht;rw[a5,if_pos hm,Qba (by omega)];simp only[if_true,Qad,Qbc,getE hk,hld,ew,h2];rw[ht];rfl
 ·have a5:decide ((m:Int)≤((s.length-k:Nat):Int))=false:=decide_eq_false (by omega);rw[a5,if_neg hm];rfl
theorem tst1(c:UInt8)(r:List UInt8):tstB c r 1=decide (c.toNat<128)∧numN c r 1=(c.toNat:Int):=by
 have hc:=c.toNat_lt;have en:numN c r 1=(c.toNat:Int):=by simp[numN,Q24]
 refine⟨?_,en⟩;have hr:Qj0 c.toNat=true:=by unfold Qj0; rw[decide_eq_true (by omega),decide_eq_false (by omega)]; rfl
 rw[tstB,en,decide_eq_true (by omega),Int.toNat_natCast,hr];simp only[Bool.true_and,List.take_succ_cons,List.take_zero,List.map_cons,List.map_nil];unfold Qrr;by_cases h:c.toNat<128
 ·rw[decide_eq_true h,if_pos h]; simp
 ·rw[decide_eq_false h,if_neg h,if_pos (by omega)];simp
theorem tst2(c c1:UInt8)(r:List UInt8):tstB c (c1::r) 2=decide ((192≤c.toNat∧c.toNat<224)∧Qcx c1=true∧128≤(c.toNat-192)*64+(c1.toNat-128))∧numN c (c1::r) 2=64*((c.toNat:Int)-192)+c1.toNat-128:=by
 have hc:=c.toNat_lt;have hc1:=c1.toNat_lt;have en:numN c (c1::r) 2=64*((c.toNat:Int)-192)+c1.toNat-128:=by simp[numN,Q24,addN]
 refine⟨?_,en⟩;rw[tstB,en];simp only[List.take_succ_cons,List.take_zero,List.map_cons,List.map_nil];have hcont:Qcx c1=true↔(128≤c1.toNat∧c1.toNat<192):=by unfold Qcx; simp
 by_cases hn:0≤64*((c.toNat:Int)-192)+c1.toNat-128
 ·obtain⟨n,hn2⟩:∃ n:Nat,64*((c.toNat:Int)-192)+c1.toNat-128=n:=⟨(64*((c.toNat:Int)-192)+c1.toNat-128).toNat,by omega⟩;rw[hn2,Int.toNat_natCast,decide_eq_true (by omega),Bool.true_and];have hlt:n<5000:=by omega
  have hr:Qj0 n=true:=by unfold Qj0; rw[decide_eq_true (by omega),decide_eq_false (by omega)]; rfl
  rw[hr,Bool.true_and];congr 1;apply propext;rw[hcont];unfold Qrr;by_cases h1:n<128
  ·rw[if_pos h1];constructor
   ·intro h; simp at h
   ·intro h; omega
  ·rw[if_neg h1];by_cases h2:n<2048
   ·rw[if_pos h2];simp only[List.cons.injEq,and_true];omega
   ·rw[if_neg h2,if_pos (by omega)];constructor
    ·intro h; simp at h
    ·intro h; omega
 ·rw[decide_eq_false hn,Bool.false_and,decide_eq_false];rw[hcont]; omega
theorem tst3(c c1 c2:UInt8)(r:List UInt8):tstB c (c1::c2::r) 3=decide ((224≤c.toNat∧c.toNat<240)∧Qcx c1=true∧Qcx c2=true∧2048≤((c.toNat-224)*64+(c1.toNat-128))*64+(c2.toNat-128)∧Qj0 (((c.toNat-224)*64+(c1.toNat-128))*64+(c2.toNat-128))=true) ∧
  numN c (c1::c2::r) 3=64*(64*((c.toNat:Int)-224)+c1.toNat-128)+c2.toNat-128:=by
 have hc:=c.toNat_lt;have hc1:=c1.toNat_lt;have hc2:=c2.toNat_lt;have en:numN c (c1::c2::r) 3=64*(64*((c.toNat:Int)-224)+c1.toNat-128)+c2.toNat-128:=by simp[numN,Q24,addN]
 refine⟨?_,en⟩;rw[tstB,en];simp only[List.take_succ_cons,List.take_zero,List.map_cons,List.map_nil];have hcont:Qcx c1=true↔(128≤c1.toNat∧c1.toNat<192):=by unfold Qcx; simp
 have hcont2:Qcx c2=true↔(128≤c2.toNat∧c2.toNat<192):=by unfold Qcx; simp
 by_cases hn:0≤64*(64*((c.toNat:Int)-224)+c1.toNat-128)+c2.toNat-128
 ·obtain⟨n,hn2⟩:∃ n:Nat,64*(64*((c.toNat:Int)-224)+c1.toNat-128)+c2.toNat-128=n:=⟨(64*(64*((c.toNat:Int)-224)+c1.toNat-128)+c2.toNat-128).toNat,by omega⟩;rw[hn2,Int.toNat_natCast,decide_eq_true (by omega),Bool.true_and];have hlt:n<200000:=by omega
  have key:Qrr n=[c.toNat,c1.toNat,c2.toNat]↔((224≤c.toNat∧c.toNat<240)∧(128≤c1.toNat∧c1.toNat<192)∧(128≤c2.toNat∧c2.toNat<192)∧2048≤n):=by
   unfold Qrr;by_cases h1:n<128
   ·rw[if_pos h1];exact⟨fun h=>by simp at h,fun h=>by omega⟩
   rw[if_neg h1];by_cases h2:n<2048
   ·rw[if_pos h2];exact⟨fun h=>by simp at h,fun h=>by omega⟩
   rw[if_neg h2];by_cases h3:n<65536
   ·rw[if_pos h3];simp only[List.cons.injEq,and_true];omega
   ·rw[if_neg h3];exact⟨fun h=>by simp at h,fun h=>by omega⟩
  rw[Bool.eq_iff_iff];simp only[Bool.and_eq_true,decide_eq_true_eq];rw[key,hcont,hcont2];constructor
  ·rintro ⟨hr,a,b,c', d⟩;have e:((c.toNat-224)*64+(c1.toNat-128))*64+(c2.toNat-128)=n:=by omega
   exact⟨a,b,c', by omega,by rw[e]; exact hr⟩
  ·rintro ⟨a,b,c', d,hr⟩;have e:((c.toNat-224)*64+(c1.toNat-128))*64+(c2.toNat-128)=n:=by omega
   rw[e] at hr d;exact⟨hr,a,b,c', d⟩
 ·rw[decide_eq_false hn,Bool.false_and,decide_eq_false];rw[hcont,hcont2]; omega
theorem tst4(c c1 c2 c3:UInt8)(r:List UInt8):tstB c (c1::c2::c3::r) 4=decide ((240≤c.toNat∧c.toNat<248)∧Qcx c1=true∧Qcx c2=true∧Qcx c3=true∧65536≤(((c.toNat-240)*64+(c1.toNat-128))*64+(c2.toNat-128))*64+(c3.toNat-128)∧Qj0 ((((c.toNat-240)*64+(c1.toNat-128))*64+(c2.toNat-128))*64+(c3.toNat-128))=true) ∧
  numN c (c1::c2::c3::r) 4=64*(64*(64*((c.toNat:Int)-240)+c1.toNat-128)+c2.toNat-128)+c3.toNat-128:=by
 have hc:=c.toNat_lt;have hc1:=c1.toNat_lt;have hc2:=c2.toNat_lt;have hc3:=c3.toNat_lt;have en:numN c (c1::c2::c3::r) 4=64*(64*(64*((c.toNat:Int)-240)+c1.toNat-128)+c2.toNat-128)+c3.toNat-128:=by simp[numN,Q24,addN]
 refine⟨?_,en⟩;rw[tstB,en];simp only[List.take_succ_cons,List.take_zero,List.map_cons,List.map_nil];have hcont:Qcx c1=true↔(128≤c1.toNat∧c1.toNat<192):=by unfold Qcx; simp
 have hcont2:Qcx c2=true↔(128≤c2.toNat∧c2.toNat<192):=by unfold Qcx; simp
 have hcont3:Qcx c3=true↔(128≤c3.toNat∧c3.toNat<192):=by unfold Qcx; simp
 by_cases hn:0≤64*(64*(64*((c.toNat:Int)-240)+c1.toNat-128)+c2.toNat-128)+c3.toNat-128
 ·obtain⟨n,hn2⟩:∃ n:Nat,64*(64*(64*((c.toNat:Int)-240)+c1.toNat-128)+c2.toNat-128)+c3.toNat-128=n:=⟨(64*(64*(64*((c.toNat:Int)-240)+c1.toNat-128)+c2.toNat-128)+c3.toNat-128).toNat,by omega⟩;rw[hn2,Int.toNat_natCast,decide_eq_true (by omega),Bool.true_and];have key:Qj0 n=true→(Qrr n=[c.toNat,c1.toNat,c2.toNat,c3.toNat]↔((240≤c.toNat∧c.toNat<248)∧(128≤c1.toNat∧c1.toNat<192)∧(128≤c2.toNat∧c2.toNat<192)∧(128≤c3.toNat∧c3.toNat<192)∧65536≤n)):=fun hr=>by
   have hlt:n≤1114111:=by unfold Qj0 at hr; rw[Bool.and_eq_true] at hr; exact of_decide_eq_true hr.1
   unfold Qrr;by_cases h1:n<128
   ·rw[if_pos h1];exact⟨fun h=>by simp at h,fun h=>by omega⟩
   rw[if_neg h1];by_cases h2:n<2048
   ·rw[if_pos h2];exact⟨fun h=>by simp at h,fun h=>by omega⟩
   rw[if_neg h2];by_cases h3:n<65536
   ·rw[if_pos h3];exact⟨fun h=>by simp at h,fun h=>by omega⟩
   ·rw[if_neg h3];simp only[List.cons.injEq,and_true];omega
  rw[Bool.eq_iff_iff];simp only[Bool.and_eq_true,decide_eq_true_eq];rw[hcont,hcont2,hcont3];constructor
  ·rintro ⟨hr,hb⟩;obtain⟨a,b,c', d', d⟩:=(key hr).1 hb;have e:(((c.toNat-240)*64+(c1.toNat-128))*64+(c2.toNat-128))*64+(c3.toNat-128)=n:=by omega
   exact⟨a,b,c', d', by omega,by rw[e]; exact hr⟩
  ·rintro ⟨a,b,c', d', d,hr⟩;have e:(((c.toNat-240)*64+(c1.toNat-128))*64+(c2.toNat-128))*64+(c3.toNat-128)=n:=by omega
   rw[e] at hr d;exact⟨hr,(key hr).2 ⟨a,b,c', d', d⟩⟩
 ·rw[decide_eq_false hn,Bool.false_and,decide_eq_false];rw[hcont,hcont2,hcont3]; omega
theorem Qarw(s:List UInt8)(k:Nat)(hk:k<s.length)(hs:s.length<9000000000000):Qmg s k=some (((Qlp (s.drop k)).1:Int),((Qlp (s.drop k)).2:Int)):=by
 have d1:decide ((k:Int)<0)=false:=decide_eq_false (by omega);have d2:decide ((k:Int) ≥ (s.length:Int))=false:=decide_eq_false (by omega);have hc:=s[k].toNat_lt;have l1:=rL1 s k hk hs 1 (by omega) (by omega);have l2:=rL1 s k hk hs 2 (by omega) (by omega);have l3:=rL1 s k hk hs 3 (by omega) (by omega);have l4:=rL1 s k hk hs 4 (by omega) (by omega);have l5:Qc9 s k Q24 ((4+1:Nat):Int)=some (.inl ()):=by
  rw[Qc9,show decide (((4+1:Nat):Int)≤4)=false from rfl];simp only[Bool.false_eq_true,if_false,Qad]
 have hdl:(s.drop (k+1)).length=s.length-(k+1):=List.length_drop;rw[Qmg,d1,d2,Qct hk,Qlp];show(Qc9 s k Q24 ((1:Nat):Int)>>=_)=_;rw[l1,if_pos (by omega),(tst1 _ _).1,(tst1 _ _).2,l2];unfold Qamz;by_cases h1:s[k].toNat<128
 ·rw[decide_eq_true h1,if_pos rfl,if_pos h1]; rfl
 rw[decide_eq_false h1,if_neg (by decide),if_neg h1];generalize hr:s.drop (k+1)=r at *
 match r with
 | [] =>
  simp at hdl;rw[if_neg (by omega)];simp
 | [c1] =>
  simp at hdl;have hc1:=c1.toNat_lt;rw[if_pos (by omega),(tst2 _ _ _).1,(tst2 _ _ _).2,l3,if_neg (by omega:¬ k+3≤s.length)];dsimp only;by_cases h2:192≤s[k].toNat∧s[k].toNat<224
  ·rw[if_pos h2];by_cases h3:Qcx c1=true∧128≤(s[k].toNat-192)*64+(c1.toNat-128)
   ·have h4:128≤c1.toNat:=by have:=h3.1; unfold Qcx at this; simp at this; exact this.1
    rw[decide_eq_true ⟨h2,h3⟩,if_pos rfl,if_pos h3];simp only[Qad];congr 2;omega
   ·rw[decide_eq_false (fun h=>h3 h.2),if_neg (by decide),if_neg h3]; rfl
  ·rw[decide_eq_false (fun h=>h2 h.1),if_neg (by decide),if_neg h2];simp
 | [c1,c2] =>
  simp at hdl;have hc1:=c1.toNat_lt;have hc2:=c2.toNat_lt;rw[if_pos (by omega),(tst2 _ _ _).1,(tst2 _ _ _).2,l3,if_pos (by omega:k+3≤s.length),(tst3 _ _ _ _).1,(tst3 _ _ _ _).2,l4,if_neg (by omega:¬ k+4≤s.length)];dsimp only;by_cases h2:192≤s[k].toNat∧s[k].toNat<224
  ·rw[if_pos h2];by_cases h3:Qcx c1=true∧128≤(s[k].toNat-192)*64+(c1.toNat-128)
   ·have h4:128≤c1.toNat:=by have:=h3.1; unfold Qcx at this; simp at this; exact this.1
    rw[decide_eq_true ⟨h2,h3⟩,if_pos rfl,if_pos h3];simp only[Qad];congr 2;omega
   ·rw[decide_eq_false (fun h=>h3 h.2),if_neg (by decide),if_neg h3,decide_eq_false (fun h=>by have:=h.1; omega),if_neg (by decide)]; rfl
  ·rw[decide_eq_false (fun h=>h2 h.1),if_neg (by decide),if_neg h2];by_cases h5:224≤s[k].toNat∧s[k].toNat<240
   ·rw[if_pos h5];by_cases h6:Qcx c1=true∧Qcx c2=true∧2048≤((s[k].toNat-224)*64+(c1.toNat-128))*64+(c2.toNat-128)∧Qj0 (((s[k].toNat-224)*64+(c1.toNat-128))*64+(c2.toNat-128))=true
    ·have h4:128≤c1.toNat:=by have:=h6.1; unfold Qcx at this; simp at this; exact this.1
     have h4' : 128≤c2.toNat:=by have:=h6.2.1; unfold Qcx at this; simp at this; exact this.1
     rw[decide_eq_true ⟨h5,h6⟩,if_pos rfl,if_pos h6];simp only[Qad];congr 2;omega
    ·rw[decide_eq_false (fun h=>h6 h.2),if_neg (by decide),if_neg h6]; rfl
   ·rw[decide_eq_false (fun h=>h5 h.1),if_neg (by decide),if_neg h5];simp
 | c1::c2::c3::r =>
  simp at hdl;have hc1:=c1.toNat_lt;have hc2:=c2.toNat_lt;have hc3:=c3.toNat_lt;rw[if_pos (by omega),(tst2 _ _ _).1,(tst2 _ _ _).2,l3,if_pos (by omega:k+3≤s.length),(tst3 _ _ _ _).1,(tst3 _ _ _ _).2,l4,if_pos (by omega:k+4≤s.length),(tst4 _ _ _ _ _).1,(tst4 _ _ _ _ _).2,l5];dsimp only;by_cases h2:192≤s[k].toNat∧s[k].toNat<224
  ·rw[if_pos h2];by_cases h3:Qcx c1=true∧128≤(s[k].toNat-192)*64+(c1.toNat-128)
   ·have h4:128≤c1.toNat:=by have:=h3.1; unfold Qcx at this; simp at this; exact this.1
    rw[decide_eq_true ⟨h2,h3⟩,if_pos rfl,if_pos h3];simp only[Qad];congr 2;omega
   ·rw[decide_eq_false (fun h=>h3 h.2),if_neg (by decide),if_neg h3,decide_eq_false (fun h=>by have:=h.1; omega),if_neg (by decide),decide_eq_false (fun h=>by have:=h.1; omega),if_neg (by decide)]; rfl
  ·rw[decide_eq_false (fun h=>h2 h.1),if_neg (by decide),if_neg h2];by_cases h5:224≤s[k].toNat∧s[k].toNat<240
   ·rw[if_pos h5];by_cases h6:Qcx c1=true∧Qcx c2=true∧2048≤((s[k].toNat-224)*64+(c1.toNat-128))*64+(c2.toNat-128)∧Qj0 (((s[k].toNat-224)*64+(c1.toNat-128))*64+(c2.toNat-128))=true
    ·have h4:128≤c1.toNat:=by have:=h6.1; unfold Qcx at this; simp at this; exact this.1
     have h4' : 128≤c2.toNat:=by have:=h6.2.1; unfold Qcx at this; simp at this; exact this.1
     rw[decide_eq_true ⟨h5,h6⟩,if_pos rfl,if_pos h6];simp only[Qad];congr 2;omega
    ·rw[decide_eq_false (fun h=>h6 h.2),if_neg (by decide),if_neg h6,decide_eq_false (fun h=>by have:=h.1; omega),if_neg (by decide)]; rfl
   ·rw[decide_eq_false (fun h=>h5 h.1),if_neg (by decide),if_neg h5];by_cases h7:240≤s[k].toNat∧s[k].toNat<248
    ·rw[if_pos h7];by_cases h8:Qcx c1=true∧Qcx c2=true∧Qcx c3=true∧65536≤(((s[k].toNat-240)*64+(c1.toNat-128))*64+(c2.toNat-128))*64+(c3.toNat-128)∧Qj0 ((((s[k].toNat-240)*64+(c1.toNat-128))*64+(c2.toNat-128))*64+(c3.toNat-128))=true
     ·have h4:128≤c1.toNat:=by have:=h8.1; unfold Qcx at this; simp at this; exact this.1
      have h4' : 128≤c2.toNat:=by have:=h8.2.1; unfold Qcx at this; simp at this; exact this.1
      have h4'' : 128≤c3.toNat:=by have:=h8.2.2.1; unfold Qcx at this; simp at this; exact this.1
      rw[decide_eq_true ⟨h7,h8⟩,if_pos rfl,if_pos h8];simp only[Qad];congr 2;omega
     ·rw[decide_eq_false (fun h=>h8 h.2),if_neg (by decide),if_neg h8]; rfl
    ·rw[decide_eq_false (fun h=>h7 h.1),if_neg (by decide),if_neg h7];rfl
def utfF:Nat→List UInt8→Bool
 | 0,_=>true
 | n+1,l=>match l with
  | []=>true
  | _::_=>if(Qlp l).1=65533∧(Qlp l).2=1 then false else utfF n (l.drop (Qlp l).2)
theorem Qac0(n:Nat)(l:List UInt8)(h:l≠[]):utfF (n+1) l=if(Qlp l).1=65533∧(Qlp l).2=1 then false else utfF n (l.drop (Qlp l).2):=by
 cases l with
 | nil=>exact absurd rfl h
 | cons c r=>rfl
theorem badI(p:Nat×Nat):(if(((p.1:Nat):Int)==65533)=true then some (((p.2:Nat):Int)==1) else some false:Option Bool)=some (decide (p.1=65533∧p.2=1)):=by
 have a:=eqN p.1 65533;have b:=eqN p.2 1;rw[show(65533:Int)=((65533:Nat):Int) from rfl,show(1:Int)=((1:Nat):Int) from rfl,a,b];by_cases h1:p.1=65533
 ·rw[beq_iff_eq.2 h1,if_pos rfl];by_cases h2:p.2=1
  ·rw[beq_iff_eq.2 h2,decide_eq_true ⟨h1,h2⟩]
  ·rw[beq_eq_false_iff_ne.2 h2,decide_eq_false (fun h=>h2 h.2)]
 ·rw[beq_eq_false_iff_ne.2 h1,if_neg (by decide),decide_eq_false (fun h=>h1 h.1)]
theorem rIsU(s:List UInt8)(hs:s.length<9000000000000):∀ n k,k≤s.length→s.length-k≤n→Qlh s k=some (if utfF n (s.drop k)=true then .inl () else .inr ()):=by
 intro n
 induction n with
 | zero =>
  intro k h1 h2;rw[Qlh,ltI,decide_eq_false (by omega:¬ k<s.length)];rfl
 | succ n ih =>
  intro k h1 h2;by_cases hk:k<s.length
  ·have hne:s.drop k≠[]:=by rw[Qct hk]; exact List.cons_ne_nil _ _
   obtain⟨z1,z2⟩:=Q6d _ hne;rw[List.length_drop] at z2;have ew:wr ((k:Int)+((Qlp (s.drop k)).2:Int))=((k+(Qlp (s.drop k)).2:Nat):Int):=by rw[Qhh (by omega) (by omega)]; rfl
   rw[Qlh,ltI,decide_eq_true hk,Qarw s k hk hs];simp only[if_true,Qad];rw[badI (Qlp (s.drop k)),ew,ih _ (by omega) (by omega),Qac0 n _ hne,List.drop_drop];by_cases hb:(Qlp (s.drop k)).1=65533∧(Qlp (s.drop k)).2=1
   ·rw[decide_eq_true hb,if_pos hb]; rfl
   ·rw[decide_eq_false hb,if_neg hb]; rfl
  ·rw[Qlh,ltI,decide_eq_false hk,List.drop_eq_nil_of_le (by omega)];rfl
theorem tIsU(s:List UInt8)(x1:List UInt8)(hs:s.length<9000000000000):∀ n k,k≤s.length→s.length-k≤n→∃ out,Qfd s k=some (out,())∧Qlj x1 out=some (if utfF n (s.drop k)=true then .inl () else .inr ()):=by
 intro n
 induction n with
 | zero =>
  intro k h1 h2;rw[Qfd,ltI,decide_eq_false (by omega:¬ k<s.length)];refine⟨[],rfl,?_⟩;rw[Qlj]; rfl
 | succ n ih =>
  intro k h1 h2;by_cases hk:k<s.length
  ·have hne:s.drop k≠[]:=by rw[Qct hk]; exact List.cons_ne_nil _ _
   obtain⟨z1,z2⟩:=Q6d _ hne;rw[List.length_drop] at z2;have ew:wr ((k:Int)+((Qlp (s.drop k)).2:Int))=((k+(Qlp (s.drop k)).2:Nat):Int):=by rw[Qhh (by omega) (by omega)]; rfl
   obtain⟨out,o1,o2⟩:=ih (k+(Qlp (s.drop k)).2) (by omega) (by omega);rw[Qfd,ltI,decide_eq_true hk,Qaru s k hk (by omega)];simp only[if_true,Qad];rw[ew,o1];refine⟨_,rfl,?_⟩;rw[Qlj];simp only;rw[badI (Qlp (s.drop k)),o2,Qac0 n _ hne,List.drop_drop];by_cases hb:(Qlp (s.drop k)).1=65533∧(Qlp (s.drop k)).2=1
   ·rw[decide_eq_true hb,if_pos hb]; rfl
   ·rw[decide_eq_false hb,if_neg hb]; rfl
  ·rw[Qfd,ltI,decide_eq_false hk,List.drop_eq_nil_of_le (by omega)];refine⟨[],rfl,?_⟩;rw[Qlj]; rfl
theorem rUtf(s:List UInt8)(hs:s.length<9000000000000):Qabz s=some (utfF s.length s):=by
 have:=rIsU s hs s.length 0 (by omega) (by omega);rw[Qabz,show(0:Int)=((0:Nat):Int) from rfl,this,List.drop_zero];cases utfF s.length s<;>rfl
theorem tUtf(s:List UInt8)(hs:s.length<9000000000000):Qacc s=some (utfF s.length s):=by
 obtain⟨out,o1,o2⟩:=tIsU s s hs s.length 0 (by omega) (by omega);rw[List.drop_zero] at o2;rw[Qacc,Q8z];simp only[Qad];rw[Qxc,show(0:Int)=((0:Nat):Int) from rfl,o1];simp only[Qad,List.append_nil,o2];cases utfF s.length s<;>rfl
def qb(c:UInt8):List UInt8:=if c=10 then [92,110] else if c=9 then [92,116] else if c=34∨c=92 then [92,c] else [c]
def qs(s:List UInt8):List UInt8:=s.flatMap qb
theorem Qak1(c:UInt8):(qb c).length≤2:=by unfold qb; split; simp; split; simp; split<;>simp
theorem Qank:∀ s:List UInt8,(qs s).length≤2*s.length
 | []=>by simp[qs]
 | c::r=>by
  have:=Qank r;have:=Qak1 c;simp[qs] at *;omega
theorem eqC(c:UInt8)(k:Nat)(hk:k<256):((c.toNat:Int)==(k:Int))=decide (c=UInt8.ofNat k):=by
 rw[eqN];by_cases h:c.toNat=k
 ·rw[beq_iff_eq.2 h,decide_eq_true];apply UInt8.toNat_inj.1;rw[h,UInt8.toNat_ofNat', Nat.mod_eq_of_lt hk]
 ·rw[beq_eq_false_iff_ne.2 h,decide_eq_false];intro e; apply h; rw[e,UInt8.toNat_ofNat', Nat.mod_eq_of_lt hk]
theorem Qaox(s:List UInt8)(hs:s.length≤1000000):∀ k,k≤s.length→∀ acc:List Int,acc.length≤2*k+1→Qdf s acc k=some (acc++s2b (qs (s.drop k))):=by
 refine upto ?_ fun k hk ih=>?_
 ·intro acc _;rw[Qdf]; simp[qs,s2b]
 ·intro acc ha;have e10:=eqC s[k] 10 (by omega);have e9:=eqC s[k] 9 (by omega);have e34:=eqC s[k] 34 (by omega);have e92:=eqC s[k] 92 (by omega);rw[Qdf,Qba (by omega)];simp only[ltI,hk,decide_true,if_true,Qbc,getE hk,Qad];rw[show(10:Int)=((10:Nat):Int) from rfl,show(9:Int)=((9:Nat):Int) from rfl,show(34:Int)=((34:Nat):Int) from rfl,show(92:Int)=((92:Nat):Int) from rfl,e10,e9,e34,e92];have eq:qs (s.drop k)=qb s[k]++qs (s.drop (k+1)):=by rw[Qct hk]; rfl
  have step:∀ w:List UInt8,qb s[k]=w→(appL 1 acc (s2b w)>>=fun x=>Qdf s x ((k+1:Nat):Int))=some (acc++s2b (qs (s.drop k))):=fun w hw=>by
   have hl:w.length≤2:=by rw[← hw]; exact Qak1 _
   rw[Qhw (by rw[Q20]; omega) (by rw[Q20]; omega),Qad,ih _ (by rw[List.length_append,Q20]; omega),eq,hw,Qaon,List.append_assoc]
  by_cases h10:s[k]=10
  ·rw[decide_eq_true (show s[k]=UInt8.ofNat 10 from h10)];exact step [92,110] (by unfold qb; rw[if_pos h10])
  have h10' : decide (s[k]=UInt8.ofNat 10)=false:=decide_eq_false h10;rw[h10'];by_cases h9:s[k]=9
  ·rw[decide_eq_true (show s[k]=UInt8.ofNat 9 from h9)];exact step [92,116] (by unfold qb; rw[if_neg h10,if_pos h9])
  have h9' : decide (s[k]=UInt8.ofNat 9)=false:=decide_eq_false h9;rw[h9'];have e:(if decide (s[k]=UInt8.ofNat 34)=true then some (decide (s[k]=UInt8.ofNat 34)) else some (decide (s[k]=UInt8.ofNat 92)):Option Bool)=some (decide (s[k]=34∨s[k]=92)):=by
   by_cases h:s[k]=34
   ·rw[decide_eq_true (show s[k]=UInt8.ofNat 34 from h),decide_eq_true (show s[k]=34∨s[k]=92 from .inl h)]; rfl
   ·rw[decide_eq_false (show ¬ s[k]=UInt8.ofNat 34 from h)];by_cases h' : s[k]=92
    ·rw[decide_eq_true (show s[k]=UInt8.ofNat 92 from h'),decide_eq_true (show s[k]=34∨s[k]=92 from .inr h')]; rfl
    ·rw[decide_eq_false (show ¬ s[k]=UInt8.ofNat 92 from h'),decide_eq_false (show ¬ (s[k]=34∨s[k]=92) from fun q=>q.elim h h')]; rfl
  simp only[Bool.false_eq_true,if_false];rw[e];simp only[Qad];by_cases h34:s[k]=34∨s[k]=92
  ·rw[decide_eq_true h34];exact step [92,s[k]] (by unfold qb; rw[if_neg h10,if_neg h9,if_pos h34])
  ·rw[decide_eq_false h34];exact step [s[k]] (by unfold qb; rw[if_neg h10,if_neg h9,if_neg h34])
theorem Qaoy(s:List UInt8)(hs:s.length≤1000000):∀ k,k≤s.length→∀ acc:List UInt8,acc.length≤2*k+1→Qfc s acc k=some (if(s.drop k).any (· == 13)=true then .inr () else .inl (acc++qs (s.drop k))):=by
 refine upto ?_ fun k hk ih=>?_
 ·intro acc _;rw[Qfc]; simp[qs]
 ·intro acc ha;have ec:cutL s k (wr ((k:Int)+1))=some [s[k]]:=by
   rw[Qba (by omega),Qol (by omega) (by omega) (by omega),Int.toNat_natCast,Int.toNat_natCast];congr 1;rw[List.drop_take,Qct hk];have:k+1-k=1:=by omega
   rw[this]; rfl
  have eq:qs (s.drop k)=qb s[k]++qs (s.drop (k+1)):=by rw[Qct hk]; rfl
  have eany:(s.drop k).any (· == 13)=(s[k]==13||(s.drop (k+1)).any (· == 13)):=by rw[Qct hk]; rfl
  have e1:∀ b:UInt8,(([s[k]]:List UInt8)==[b])=decide (s[k]=b):=fun b=>by
   rw[List.cons_beq_cons];by_cases h:s[k]=b
   ·rw[decide_eq_true h,beq_iff_eq.2 h]; rfl
   ·rw[decide_eq_false h,beq_eq_false_iff_ne.2 h]; rfl
  have hq:=Qak1 s[k];rw[Qfc,ec,Qba (by omega),eany,eq];simp only[ltI,hk,decide_true,if_true,Qad,e1];by_cases h13:s[k]=13
  ·rw[decide_eq_true h13,beq_iff_eq.2 h13]; rfl
  rw[decide_eq_false h13,beq_eq_false_iff_ne.2 h13];have n1:need (([92]:List UInt8).length+[s[k]].length≤9223372036854775807)=some ():=Qsd (by simp);have step:∀ w:List UInt8,qb s[k]=w→(need (acc.length+w.length≤9223372036854775807)>>=fun _=>Qfc s (acc++w) ((k+1:Nat):Int))=some (if(s.drop (k+1)).any (· == 13)=true then .inr () else .inl (acc++(qb s[k]++qs (s.drop (k+1))))):=fun w hw=>by
   rw[Qsd (by rw[← hw]; omega),Qad,ih _ (by rw[List.length_append,← hw]; omega),hw,List.append_assoc]
  simp only[Bool.false_eq_true,if_false,Bool.false_or,n1,Qad];by_cases h10:s[k]=10
  ·rw[decide_eq_true h10];exact step [92,110] (by unfold qb; rw[if_pos h10])
  rw[decide_eq_false h10];by_cases h9:s[k]=9
  ·rw[decide_eq_true h9];exact step [92,116] (by unfold qb; rw[if_neg h10,if_pos h9])
  rw[decide_eq_false h9];by_cases h34:s[k]=34
  ·rw[decide_eq_true h34];exact step ([92]++[s[k]]) (by unfold qb; rw[if_neg h10,if_neg h9,if_pos (show s[k]=34∨s[k]=92 from .inl h34)]; rfl)
  rw[decide_eq_false h34];by_cases h92:s[k]=92
  ·rw[decide_eq_true h92];exact step ([92]++[s[k]]) (by unfold qb; rw[if_neg h10,if_neg h9,if_pos (show s[k]=34∨s[k]=92 from .inr h92)]; rfl)
  ·rw[decide_eq_false h92];exact step [s[k]] (by unfold qb; rw[if_neg h10,if_neg h9,if_neg (show ¬ (s[k]=34∨s[k]=92) from fun q=>q.elim h34 h92)])
theorem Qaqj:∀ s:List UInt8,decide (Lib.indexByte s 13 ≥ 0)=s.any (· == 13)
 | []=>rfl
 | c::r=>by
  have ih:=Qaqj r;have hg:=Lib.indexByte_ge r 13;unfold Lib.indexByte;rw[List.any_cons];cases hc:(c==13) with
  | true=>rfl
  | false =>
   simp only[Bool.false_eq_true,if_false,Bool.false_or];rw[← ih];by_cases h1:Lib.indexByte r 13 = -1
   ·rw[h1]; rfl
   ·rw[if_neg (by simpa using h1),decide_eq_true (by omega),decide_eq_true (by omega)]
def quoV(s:List UInt8):List UInt8×Bool:=if utfF s.length s=true∧s.any (· == 13)=false then([34]++qs s++[34],true) else([],false)
theorem Qanl(s:List UInt8)(hs:s.length≤1000000):Qlk s=some (quoV s)∧Qni s=some (quoV s)∧(quoV s).1.length≤2*s.length+2:=by
 unfold quoV;have hl:=Qank s;have t:=Qaox s hs 0 (by omega) [34] (by simp);have r:=Qaoy s hs 0 (by omega) [34] (by simp);rw[List.drop_zero] at t r;have e13:decide (Lib.indexByte s (13:Int).toNat.toUInt8 ≥ 0)=s.any (· == 13):=Qaqj s;refine⟨?_,?_,?_⟩
 ·rw[Qlk,tUtf s (by omega),Qho,Qcf];simp only[Qad,e13];cases hu:utfF s.length s with
  | false=>rfl
  | true =>
   cases ha:s.any (· == 13) with
   | true=>rfl
   | false =>
    simp only[Bool.not_true,Bool.false_eq_true,if_false,Qad,if_true,and_self];rw[show(0:Int)=((0:Nat):Int) from rfl,t];simp only[Qad];rw[Qhw (by simp[Q20]; omega) (by simp[Q20]; omega),Qad];have e:[34]++s2b (qs s)++[34]=s2b ([34]++qs s++[34]):=by simp[s2b]
    rw[e,Qaoo];rfl
 ·rw[Qni,rUtf s (by omega)];cases hu:utfF s.length s with
  | false=>rfl
  | true =>
   simp only[Qad,Bool.not_true,Bool.false_eq_true,if_false];rw[show(0:Int)=((0:Nat):Int) from rfl,r];cases ha:s.any (· == 13) with
   | true=>rfl
   | false =>
    simp only[Bool.false_eq_true,if_false,Qad,and_self,if_true];rw[Qsd (by simp; omega)];rfl
 ·split
  ·simp; omega
  ·simp
theorem Qak2(s:List UInt8)(hs:s.length≤1000000):∃ q,Qlk s=some q∧Qni s=some q∧q.1.length≤2*s.length+2:=⟨_,Qanl s hs⟩
def rngN(x:Qab):Prop := -9223372036854775808≤x.N∧x.N≤9223372036854775807
def Qak3(g:List Qab→Nat→List Qab×Nat):Prop:=∀ (l:List Qab) (n:Nat),allL rngN l→allL rngN (g l n).1
theorem Qah5{g:List Qab→Nat→List Qab×Nat}(hg:Qak3 g):Qak3 (Qoh g):=fun l=>by
 induction l with
 | nil=>intro n _; simp[Qoh,allL]
 | cons x r ih =>
  intro n h;rw[allL,Qo9] at h;obtain⟨⟨hq,h1,h2,h3⟩,h4⟩:=h;unfold Qoh;split
  ·simp[allL]
  ·rw[allL,Qo9];exact⟨⟨hq,hg _ _ h1,hg _ _ h2,hg _ _ h3⟩,ih _ h4⟩
theorem Q6e:∀ d,Qak3 (Qh2 d)
 | 0=>fun l n _=>by simp[Qh2,allL]
 | d+1=>Qah5 (Q6e d)
theorem Q6f(x:Qab)(h1:x.Name.length≤40)(h2:x.Text.length≤60)(h3:rngN x):okNd x:=by
 refine⟨by omega,by omega,h3,fun _=>?_⟩;obtain⟨q,q1,q2,-⟩:=Qak2 x.Text (by omega);exact⟨q,q1,q2⟩
abbrev Nm:=List UInt8
def up(l:List Nm):Prop:=l.Pairwise (· < ·)
theorem bl:∀ x y:Nm,Op.bytesLess x y=decide (x<y)
 | [],[]=>by simp[Op.bytesLess]
 | _::_,[]=>by simp[Op.bytesLess]
 | [],_::_=>by simp[Op.bytesLess]
 | a::x,b::y=>by
  rw[Op.bytesLess,bl x y];simp only[List.cons_lt_cons_iff];by_cases h1:a<b<;>by_cases h2:a=b<;>by_cases h3:x<y<;>simp[h1,h2,h3]
theorem nlt{a b:Nm}(h:a<b):¬ b<a:=fun k=>List.lt_irrefl a (List.lt_trans h k)
theorem Qak4{a b:Nm}(h:¬ a<b)(k:¬ b<a):a=b:=List.le_antisymm k h
theorem Qk8{l:List Nm}(h:up l):l.Nodup:=List.Pairwise.imp (fun {a b} (h:a<b) (e:a=b)=>List.lt_irrefl a (by rw[← e] at h; exact h)) h
theorem Qxz{a b:List Nm}(ha:up a)(hb:up b)(h:∀ x,x ∈ a↔x ∈ b):a=b :=
 List.Perm.eq_of_pairwise (fun _ _ _ _ h1 h2=>absurd h2 (nlt h1)) ha hb ((List.perm_ext_iff_of_nodup (Qk8 ha) (Qk8 hb)).2 h)
def insS(s:Nm):List Nm→List Nm
 | []=>[s]
 | x::r=>if s=x then x::r else if Op.bytesLess s x then s::x::r else x::insS s r
theorem Qk9(s:Nm):∀ (l:List Nm) (x:Nm),x ∈ insS s l↔x=s∨x ∈ l
 | [],x=>by simp[insS]
 | y::r,x=>by
  unfold insS;split
  ·rename_i h; subst h; simp
  ·split
   ·simp
   ·simp only[List.mem_cons,Qk9 s r];constructor
    ·rintro (h | h | h)
     ·exact .inr (.inl h)
     ·exact .inl h
     ·exact .inr (.inr h)
    ·rintro (h | h | h)
     ·exact .inr (.inl h)
     ·exact .inl h
     ·exact .inr (.inr h)
theorem Qwi(s:Nm):∀ {l:List Nm},up l→up (insS s l)
 | [],_=>by simp[insS,up]
 | y::r,h=>by
  obtain⟨h1,h2⟩:=List.pairwise_cons.1 h;unfold insS;split
  ·exact h
  ·rename_i hne;split
   ·rename_i hl;rw[bl] at hl;have hl:=of_decide_eq_true hl;exact List.pairwise_cons.2 ⟨fun z hz=>by
     rcases List.mem_cons.1 hz with rfl | hz
     ·exact hl
     ·exact List.lt_trans hl (h1 z hz),h⟩
   ·rename_i hl;rw[bl] at hl;have hl:¬ s<y:=by simpa using hl
    refine List.pairwise_cons.2 ⟨fun z hz=>?_,Qwi s h2⟩;rcases (Qk9 s r z).1 hz with rfl | hz
    ·exact Classical.byContradiction fun k=>hne (Qak4 hl k)
    ·exact h1 z hz
def upL(l:List Nm):List Nm:=l.foldr insS []
theorem Qg8:∀ {l:List Nm} {x:Nm},x ∈ upL l↔x ∈ l
 | [],x=>Iff.rfl
 | y::r,x=>by
  show x ∈ insS y (upL r)↔_;rw[Qk9,Qg8 (l:=r),List.mem_cons]
theorem Qjr:∀ l:List Nm,up (upL l)
 | []=>List.Pairwise.nil
 | y::r=>Qwi y (Qjr r)
theorem Qac1{l:List Nm}(h:up l):upL l=l:=Qxz (Qjr l) h fun _=>Qg8
theorem Qagl{a b:List Nm}(h:∀ x,x ∈ a↔x ∈ b):upL a=upL b:=Qxz (Qjr a) (Qjr b) fun x=>by rw[Qg8,Qg8]; exact h x
theorem Qak5(l:List Nm):(upL l).length≤l.length:=by
 refine List.Nodup.length_le_of_subset (Qk8 (Qjr l)) fun x hx=>Qg8.1 hx
theorem Qanm{l:List Nm}:(l.mergeSort fun x y=>decide (x≤y)).Pairwise (· ≤ ·):=by
 have:=List.pairwise_mergeSort (le:=fun x y:Nm=>decide (x≤y)) (fun a b c h1 h2=>by
  simp only[decide_eq_true_eq] at *;exact List.le_trans h1 h2) (fun a b=>by
  simp only[Bool.or_eq_true,decide_eq_true_eq];exact List.le_total a b) l
 exact this.imp fun h=>of_decide_eq_true h
theorem Qaoz{a b:Nm}(h:a≤b)(hne:a≠b):a<b:=Classical.byContradiction fun k=>hne (Qak4 k h)
theorem Qak6{l:List Nm}(h:l.Nodup):(l.mergeSort fun x y=>decide (x≤y))=upL l:=by
 have hn:=(List.mergeSort_perm l (fun x y:Nm=>decide (x≤y))).nodup_iff.2 h;refine Qxz (List.Pairwise.imp₂ (fun {a b} h1 h2=>Qaoz h1 h2) Qanm hn) (Qjr l) fun x=>by rw[List.mem_mergeSort,Qg8]
theorem Q25(zs:List Nm)(hz:zs.Pairwise (· ≤ ·)):∀ m,m≤zs.length→up (Lib.compactUpTo zs.toArray m)∧∀ x,x ∈ Lib.compactUpTo zs.toArray m↔x ∈ zs.take m
 | 0,_=>by simp[Lib.compactUpTo,up]
 | m+1,hm=>by
  obtain⟨h1,h2⟩:=Q25 zs hz m (by omega);have e:zs.toArray[m]! = zs[m]:=by simp[show m<zs.length by omega]
  rw[Lib.compactUpTo_succ,e,List.take_succ_eq_append_getElem (by omega)];by_cases hk:Lib.keeps zs.toArray m=true
  ·rw[if_pos hk];refine⟨List.pairwise_append.2 ⟨h1,by simp,fun a ha b hb=>?_⟩,fun x=>by simp only[List.mem_append,h2]⟩;simp only[List.mem_singleton] at hb;subst hb;have ha:=(h2 a).1 ha;obtain⟨j,hj,rfl⟩:=List.mem_iff_getElem.1 ha;have hj2:j<m:=by simp at hj; omega
   rw[List.getElem_take];have hkk:m=0∨zs.toArray[m]! ≠ zs.toArray[m-1]! := by simpa [Lib.keeps] using hk
   have hne:zs[m]≠zs[m-1]:=by
    rcases hkk with h | h
    ·omega
    ·have e2:zs.toArray[m-1]! = zs[m-1]:=by simp[show m-1<zs.length by omega]
     rwa [e,e2] at h
   have hle:zs[m-1]≤zs[m]:=List.pairwise_iff_getElem.1 hz (m-1) m (by omega) (by omega) (by omega);have hlt:=Qaoz hle (Ne.symm hne);by_cases hjm:j=m-1
   ·subst hjm; exact hlt
   ·have hle2:zs[j]≤zs[m-1]:=List.pairwise_iff_getElem.1 hz j (m-1) (by omega) (by omega) (by omega);by_cases he:zs[j]=zs[m-1]
    ·rw[he]; exact hlt
    ·exact List.lt_trans (Qaoz hle2 he) hlt
  ·rw[if_neg hk,List.append_nil];refine⟨h1,fun x=>?_⟩;rw[h2,List.mem_append];refine⟨.inl,fun h=>h.elim id fun h=>?_⟩;simp only[List.mem_singleton] at h;subst h;have hkk:¬ (m=0∨zs.toArray[m]! ≠ zs.toArray[m-1]!):=by simpa [Lib.keeps] using hk
   have h0:m≠0:=fun h=>hkk (.inl h)
   have e2:zs.toArray[m-1]! = zs[m-1]:=by simp[show m-1<zs.length by omega]
   have hq:zs[m]=zs[m-1]:=by
    refine Classical.byContradiction fun k=>hkk (.inr ?_)
    rwa [e,e2]
   rw[hq];exact List.mem_iff_getElem.2 ⟨m-1,by simp; omega,by rw[List.getElem_take]⟩
theorem Qah6(l:List Nm):Lib.compact (l.mergeSort fun x y=>decide (x≤y))=upL l:=by
 obtain⟨h1,h2⟩:=Q25 _ (Qanm (l:=l)) _ (Nat.le_refl _);exact Qxz h1 (Qjr l) fun x=>by
  show x ∈ Lib.compactUpTo _ _↔_;rw[h2,List.take_length,List.mem_mergeSort,Qg8]
mutual
def usN:Qab→List Nm
 | ⟨k,nm,_,_,_,t,e⟩=>(if k==13 then [nm] else [])++(usL t++usL e)
def usL:List Qab→List Nm
 | []=>[]
 | x::r=>usN x++usL r
end
theorem Qiz(x:Qab):usN x=(if x.Kind==13 then [x.Name] else [])++(usL x.Then++usL x.Else):=by cases x; rw[usN]
theorem Q9f:∀ n (l:List Qab),nns l≤n→(usL l).length≤nns l:=by
 intro n
 induction n with
 | zero=>intro l h; cases l with
  | nil=>simp[usL,nns]
  | cons x r=>rw[nns] at h; have:=Qj7 x; omega
 | succ n ih =>
  intro l
  induction l with
  | nil=>intro _; simp[usL,nns]
  | cons x r ihr =>
   intro h;rw[nns] at h;have h1:=Qi0 x;have h2:=ih x.Then (by omega);have h3:=ih x.Else (by omega);have h4:=ihr (by omega);rw[usL,Qiz,nns,List.length_append,List.length_append,List.length_append];split<;>simp<;>omega
def Qp5(l:List Qab):List Nm:=upL (usL l)
theorem Q26{n:Nat}{l:List Qab}(h:nns l≤n):(Qp5 l).length≤n:=Nat.le_trans (Qak5 _) (Nat.le_trans (Q9f n l h) h)
def fndT(l:List Qae)(s:Nm):Option Qae:=l.find? (·.Name==s)
abbrev nms(l:List Qae):List Nm:=l.map (·.Name)
def suc(l:List Qae)(s:Nm):List Nm:=match fndT l s with | none=>[] | some x=>Qp5 x.L
theorem Qt0(l:List Qae)(s:Nm):up (suc l s):=by
 unfold suc;split
 ·exact List.Pairwise.nil
 ·exact Qjr _
theorem Q27{l:List Qae}{s:Nm}:(fndT l s).isSome=true↔s ∈ nms l:=by
 unfold fndT;rw[List.find?_isSome];simp only[beq_iff_eq,List.mem_map]
theorem Qam2{l:List Qae}(hn:(nms l).Nodup){x:Qae}(h:x ∈ l):fndT l x.Name=some x:=by
 unfold fndT
 induction l with
 | nil=>cases h
 | cons y r ih =>
  rw[show nms (y::r)=y.Name::nms r from rfl,List.nodup_cons] at hn;rw[List.find?_cons];rcases List.mem_cons.1 h with rfl | h
  ·simp
  ·have hne:¬ y.Name=x.Name:=fun e=>hn.1 (by rw[e]; exact List.mem_map.2 ⟨x,h,rfl⟩)
   have:(y.Name==x.Name)=false:=by simpa using hne
   rw[this];exact ih hn.2 h
theorem Qao0{l:List Qae}(hn:(nms l).Nodup){x:Qae}(h:x ∈ l):suc l x.Name=Qp5 x.L:=by
 unfold suc; rw[Qam2 hn h]
def closed(l:List Qae):Prop:=∀ s,∀ u ∈ suc l s,u ∈ nms l
def rnd(l:List Qae)(o:List Nm):List Nm:=upL (o++o.flatMap (suc l))
def clo(l:List Qae):Nat→List Nm→List Nm
 | 0,o=>o
 | n+1,o=>clo l n (rnd l o)
theorem Qq2{l:List Qae}{o:List Nm}{x:Nm}:x ∈ rnd l o↔x ∈ o∨∃ s ∈ o,x ∈ suc l s:=by
 unfold rnd;rw[Qg8,List.mem_append,List.mem_flatMap]
theorem Qann(l:List Qae):∀ n {o:List Nm},up o→up (clo l n o)
 | 0,_,h=>h
 | n+1,_,_=>Qann l n (Qjr _)
theorem Qak7(l:List Qae):∀ n {o:List Nm} {x:Nm},x ∈ o→x ∈ clo l n o
 | 0,_,_,h=>h
 | n+1,_,_,h=>Qak7 l n (Qq2.2 (.inl h))
theorem Qac2(l:List Qae){C:Nm→Prop}(hC:∀ s,C s→∀ u ∈ suc l s,C u):∀ n {o:List Nm},(∀ x ∈ o,C x)→∀ x ∈ clo l n o,C x
 | 0,_,h=>h
 | n+1,o,h=>Qac2 l hC n fun x hx=>by
  rcases Qq2.1 hx with hx | ⟨s,hs,hx⟩
  ·exact h x hx
  ·exact hC s (h s hs) x hx
theorem Qak8{l:List Qae}:∀ n {o:List Nm},rnd l o=o→clo l n o=o
 | 0,_,_=>rfl
 | n+1,o,h=>by rw[clo,h,Qak8 n h]
theorem Qano{a b:List Nm}(ha:a.Nodup)(h:∀ x ∈ a,x ∈ b)(hl:b.length≤a.length):∀ x ∈ b,x ∈ a:=fun x hx=>Classical.byContradiction fun k=>by
 have:=List.Nodup.length_le_of_subset (List.nodup_cons.2 ⟨k,ha⟩) (l₂ := b) fun y hy=>by
  rcases List.mem_cons.1 hy with rfl | hy
  ·exact hx
  ·exact h y hy
 simp at this; omega
theorem Q6g{l:List Qae}(hc:closed l):∀ n {o:List Nm},up o→(∀ x ∈ o,x ∈ nms l)→(nms l).length≤n+o.length→rnd l (clo l n o)=clo l n o
 | 0,o,hu,hN,hn=>by
  have hr:∀ x ∈ rnd l o,x ∈ nms l:=fun x hx=>by
   rcases Qq2.1 hx with hx | ⟨s,_,hx⟩
   ·exact hN x hx
   ·exact hc s x hx
  have hlen:=List.Nodup.length_le_of_subset (Qk8 (Qjr (o++o.flatMap (suc l)))) (l₂ := nms l) fun x hx=>hr x hx
  exact Qxz (Qjr _) hu fun x=>⟨Qano (Qk8 hu) (fun x hx=>Qq2.2 (.inl hx)) (Nat.le_trans hlen (by omega)) x,fun hx=>Qq2.2 (.inl hx)⟩
 | n+1,o,hu,hN,hn=>by
  by_cases he:rnd l o=o
  ·rw[Qak8 (n+1) he,he]
  ·rw[clo];have hr:∀ x ∈ rnd l o,x ∈ nms l:=fun x hx=>by
    rcases Qq2.1 hx with hx | ⟨s,_,hx⟩
    ·exact hN x hx
    ·exact hc s x hx
   refine Q6g hc n (Qjr _) hr ?_;have:o.length<(rnd l o).length:=Nat.lt_of_not_le fun hle=>he (Qxz (Qjr _) hu fun x=>⟨Qano (Qk8 hu) (fun x hx=>Qq2.2 (.inl hx)) hle x,fun hx=>Qq2.2 (.inl hx)⟩)
   omega
def froP(l:List Qae)(o:List Nm):List Nm:=clo l l.length o
theorem Qin{l:List Qae}(hc:closed l){o:List Nm}(hu:up o)(hN:∀ x ∈ o,x ∈ nms l):∀ s ∈ froP l o,∀ u ∈ suc l s,u ∈ froP l o:=fun s hs u hu' => by
 have:=Q6g hc l.length hu hN (by simp);rw[froP,← this];exact Qq2.2 (.inr ⟨s,hs,hu'⟩)
theorem Qq3{l:List Qae}{o:List Nm}{x:Nm}(h:x ∈ o):x ∈ froP l o:=Qak7 l _ h
theorem Qmt{l:List Qae}{C:Nm→Prop}(hC:∀ s,C s→∀ u ∈ suc l s,C u){o:List Nm}(h:∀ x ∈ o,C x):∀ x ∈ froP l o,C x:=Qac2 l hC _ h
theorem Q28{l:List Qae}{o:List Nm}(h:up o):up (froP l o):=Qann l _ h
theorem Qah7{l:List Qae}(hc:closed l){o:List Nm}(h:∀ x ∈ o,x ∈ nms l):∀ x ∈ froP l o,x ∈ nms l:=Qmt (fun s _ u hu=>hc s u hu) h
theorem Qagm{l:List Qae}(hc:closed l){o:List Nm}(hu:up o)(h:∀ x ∈ o,x ∈ nms l):(froP l o).length≤l.length:=by
 have:=List.Nodup.length_le_of_subset (Qk8 (Q28 (l:=l) hu)) (l₂ := nms l) fun x hx=>Qah7 hc h x hx
 simpa using this
def reaP(l:List Qae)(s:Nm):List Nm:=froP l (suc l s)
theorem Qam3{l:List Qae}(hc:closed l){s:Nm}(hs:s ∈ nms l):froP l [s]=insS s (reaP l s):=by
 have u1:up [s]:=List.pairwise_singleton _ _;refine Qxz (Q28 u1) (Qwi s (Q28 (Qt0 l s))) fun x=>?_
 rw[Qk9];constructor
 ·refine Qmt (C:=fun x=>x=s∨x ∈ reaP l s) (fun t ht u hu=>?_) (fun x hx =>.inl (List.mem_singleton.1 hx)) x;rcases ht with rfl | ht
  ·exact .inr (Qq3 hu)
  ·exact .inr (Qin hc (Qt0 l s) (hc s) t ht u hu)
 ·rintro (rfl | hx)
  ·exact Qq3 (List.mem_singleton.2 rfl)
  ·refine Qmt (C:=fun x=>x ∈ froP l [s]) (fun t ht u hu=>Qin hc u1 (fun x hx=>by rw[List.mem_singleton.1 hx]; exact hs) t ht u hu) (fun x hx=>?_) x hx;exact Qin hc u1 (fun x hx=>by rw[List.mem_singleton.1 hx]; exact hs) s (Qq3 (List.mem_singleton.2 rfl)) x hx
theorem Qla{l:List Qae}(hc:closed l)(hr:∀ s ∈ nms l,s ∉ reaP l s){s u:Nm}(hu:u ∈ suc l s):(reaP l u).length<(reaP l s).length:=by
 have hu1:u ∈ reaP l s:=Qq3 hu;have hsub:∀ x ∈ u::reaP l u,x ∈ reaP l s:=fun x hx=>by
  rcases List.mem_cons.1 hx with rfl | hx
  ·exact hu1
  ·refine Qmt (C:=fun x=>x ∈ reaP l s) (fun t ht v hv=>Qin hc (Qt0 l s) (hc s) t ht v hv) (fun x hx=>?_) x hx;exact Qin hc (Qt0 l s) (hc s) u hu1 x hx
 have:=List.Nodup.length_le_of_subset (List.nodup_cons.2 ⟨hr u (hc s u hu),Qk8 (Q28 (Qt0 l u))⟩) hsub;exact this
theorem inL(l:List Nm)(s:Nm)(hl:l.length<9223372036854775807):∀ k,k≤l.length→Qnl l s k=some (if s ∈ l.drop k then .inr () else .inl ()):=by
 refine upto ?_ fun k hk ih=>?_
 ·rw[Qnl]; simp
 ·rw[Qnl,Qct hk];simp only[ltI,hk,decide_true,if_true,Qbc,getE hk,Qad];by_cases h:l[k]=s
  ·simp[h]
  ·have h2:¬ s=l[k]:=fun e=>h e.symm
   simp only[beq_iff_eq,h,if_false,Qba (show k<9223372036854775807 by omega),ih,List.mem_cons,h2,false_or]
theorem rIn(l:List Nm)(s:Nm)(hl:l.length<9223372036854775807):Q59 l s=some (decide (s ∈ l)):=by
 have:=inL l s hl 0 (by omega);rw[Q59,show(0:Int)=((0:Nat):Int) from rfl,this];by_cases h:s ∈ l<;>simp[h]
theorem Qarx(l:List Nm)(s:Nm)(hl:l.length<9223372036854775807):∀ k,k≤l.length→Qih l s k=some ((k+((l.drop k).takeWhile (Op.bytesLess · s)).length:Nat):Int):=by
 refine upto ?_ fun k hk ih=>?_
 ·rw[Qih]; simp
 ·rw[Qih,Qct hk];simp only[ltI,hk,decide_true,if_true,Qbc,getE hk,Qad];cases hb:Op.bytesLess l[k] s with
  | true =>
   simp only[if_true,Qba (show k<9223372036854775807 by omega),ih,List.takeWhile_cons,hb,List.length_cons];congr 2; omega
  | false=>simp only[Bool.false_eq_true,if_false,List.takeWhile_cons,hb,List.length_nil,Nat.add_zero]
theorem Qak9(s:Nm):∀ l:List Nm,up l→s ∉ l→l.take (l.takeWhile (Op.bytesLess · s)).length++s::l.drop (l.takeWhile (Op.bytesLess · s)).length=insS s l
 | [],_,_=>by simp[insS]
 | x::r,h,hs=>by
  obtain⟨h1,h2⟩:=List.pairwise_cons.1 h;have hne:¬ s=x:=fun e=>hs (by rw[e]; simp)
  have hr:s ∉ r:=fun e=>hs (List.mem_cons_of_mem _ e)
  rw[List.takeWhile_cons,insS,if_neg hne];cases hb:Op.bytesLess x s with
  | true =>
   have hlt:=of_decide_eq_true ((bl x s).symm.trans hb);have hn:Op.bytesLess s x=false:=by rw[bl]; exact decide_eq_false (nlt hlt)
   simp only[if_true,List.length_cons,List.take_succ_cons,List.drop_succ_cons,hn,Bool.false_eq_true,if_false,List.cons_append,Qak9 s r h2 hr]
  | false =>
   have hlt:=of_decide_eq_false ((bl x s).symm.trans hb);have hn:Op.bytesLess s x=true:=by
    rw[bl];exact decide_eq_true (Classical.byContradiction fun k=>hne (Qak4 k hlt))
   simp[hn]
theorem Qao1(l:List Nm)(s:Nm)(h:up l)(hl:l.length≤1000000):Qqq l s=some (insS s l):=by
 rw[Qqq,rIn l s (by omega),Qad];by_cases hs:s ∈ l
 ·rw[if_pos (by simpa using hs)];exact congrArg some (Qxz h (Qwi s h) fun x=>by rw[Qk9]; exact⟨.inr,fun k=>k.elim (fun e=>e ▸ hs) id⟩)
 ·rw[if_neg (by simpa using hs),show(0:Int)=((0:Nat):Int) from rfl,Qarx l s (by omega) 0 (by omega),Qad];simp only[List.drop_zero,Nat.zero_add];have e:=Qak9 s l h hs;have hm:(l.takeWhile (Op.bytesLess · s)).length≤l.length:=(List.takeWhile_sublist _).length_le;generalize (l.takeWhile (Op.bytesLess · s)).length=m at e hm ⊢;rw[Qol (by omega) (by omega) (by omega),Qad,Qhw (by simp; omega) (by simp; omega),Qad,Qhw (by simp; omega) (by simp; omega),Qad,Qol (by omega) (by omega) (by omega),Qad,Qhw (by simp; omega) (by simp; omega),Qad];have e2:[]++List.drop (Int.toNat ((0:Nat):Int)) (List.take (Int.toNat (m:Int)) l)++[s]++List.drop (Int.toNat (m:Int)) (List.take (Int.toNat (l.length:Int)) l)=insS s l:=by
   rw[← e]; simp
  rw[e2,Qsd,Qad];rw[List.length_map,List.length_map,← e];simp; omega
theorem Qagn(s:Nm)(l:List Nm):(insS s l).length≤l.length+1:=by
 induction l with
 | nil=>simp[insS]
 | cons x r ih =>
  unfold insS;split
  ·simp
  ·split
   ·simp
   ·simp; omega
theorem Qaqk(p0:List Qab)(v4:Int)(x9 x:List Nm)(hx:x.length≤1000):∀ k,k≤x.length→∀ v:List Nm,up v→v.length+(x.length-k)≤100000→Qgu p0 v4 x9 x v k=some (upL (v++x.drop k)):=by
 refine upto ?_ fun k hk ih=>?_
 ·intro v hv _;rw[Qgu];simp[Qac1 hv]
 ·intro v hv hb;rw[Qgu,Qct hk];simp only[ltI,hk,decide_true,if_true,Qbc,getE hk,Qad];have:=Qagn x[k] v;rw[Qao1 v _ hv (by omega),Qad,Qba (by omega),ih _ (Qwi _ hv) (by omega)];refine congrArg some (Qagl fun y=>?_);simp only[List.mem_append,Qk9,List.mem_cons];constructor
  ·rintro ((h | h) | h)
   ·exact .inr (.inl h)
   ·exact .inl h
   ·exact .inr (.inr h)
  ·rintro (h | h | h)
   ·exact .inl (.inr h)
   ·exact .inl (.inl h)
   ·exact .inr h
theorem Qaql(l:List Qab)(n:Nat)(hn:n≤1000)(ih:∀ m:List Qab,nns m≤n→Qez m=some (Qp5 m))(hl:nns l≤n+1) :
  ∀ k,k≤l.length→∀ v:List Nm,up v→v.length+nns (l.drop k)≤10000→Qgv l v k=some (upL (v++usL (l.drop k))):=by
 have hlen:l.length≤1001:=Nat.le_trans (Qev l) (by omega);refine upto ?_ fun k hk ih2=>?_
 ·intro v hv _;rw[Qgv];simp[usL,Qac1 hv]
 ·intro v hv hb;rw[Qct hk,nns,Qi0] at hb;rw[Qgv,Qct hk];have hm:=Qe9 (List.getElem_mem hk);have e1:=Qi0 l[k];simp only[ltI,hk,decide_true,if_true,Qbc,getE hk,Qad];have hT:=ih l[k].Then (by omega);have hE:=ih l[k].Else (by omega);have lT:=Q26 (Nat.le_refl (nns l[k].Then));have lE:=Q26 (Nat.le_refl (nns l[k].Else));have key:∀ v' : List Nm,up v' → v'.length≤v.length+1→(∀ x,x ∈ v' ↔ x ∈ v∨x ∈ (if l[k].Kind==13 then [l[k].Name] else [])) →
    (Qez l[k].Then>>=fun x7=>Qez l[k].Else>>=fun x9=>appL 16 x7 x9>>=fun x10=>(Qgu l k x9 x10 v' 0)>>=fun o11=>Qgv l o11 (wr ((k:Int)+1)))=some (upL (v++usL (l[k]::l.drop (k+1)))):=fun v' hv' hl' hm' => by
   rw[hT,Qad,hE,Qad,Qhw (by omega) (by omega),Qad];have h2:=Qaqk l k (Qp5 l[k].Else) (Qp5 l[k].Then++Qp5 l[k].Else) (by rw[List.length_append]; omega) 0 (by omega) v' hv' (by rw[List.length_append]; omega);rw[show((0:Nat):Int)=0 from rfl] at h2;rw[h2,Qad,Qba (by omega)];have hlu:=Qak5 (v' ++ (Qp5 l[k].Then++Qp5 l[k].Else).drop 0);rw[List.drop_zero,List.length_append,List.length_append] at hlu;rw[List.drop_zero,ih2 _ (Qjr _) (by omega)];refine congrArg some (Qagl fun x=>?_);simp only[List.mem_append,Qg8,hm', usL,Qiz,Qp5];constructor
   ·rintro (((h | h) | h | h) | h)
    ·exact .inl h
    ·exact .inr (.inl (.inl h))
    ·exact .inr (.inl (.inr (.inl h)))
    ·exact .inr (.inl (.inr (.inr h)))
    ·exact .inr (.inr h)
   ·rintro (h | (h | h | h) | h)
    ·exact .inl (.inl (.inl h))
    ·exact .inl (.inl (.inr h))
    ·exact .inl (.inr (.inl h))
    ·exact .inl (.inr (.inr h))
    ·exact .inr h
  by_cases hk13:(l[k].Kind==13)=true
  ·rw[if_pos hk13,Qao1 v _ hv (by omega),Qad,Qad];refine key _ (Qwi _ hv) (Qagn _ _) fun x=>?_
   rw[if_pos hk13,Qk9,List.mem_singleton,or_comm]
  ·rw[if_neg hk13,Qad];refine key _ hv (by omega) fun x=>?_
   rw[if_neg hk13]; simp
theorem Qao2:∀ n (l:List Qab),n≤1000→nns l≤n→Qez l=some (Qp5 l)
 | 0,l,_,h=>by
  cases l with
  | nil=>rw[Qez,Qgv]; simp[Qp5,usL,upL]
  | cons x r=>rw[nns] at h; have:=Qj7 x; omega
 | n+1,l,hn,h=>by
  have:=Qaql l n (by omega) (fun m hm=>Qao2 n m (by omega) hm) h 0 (by omega) [] List.Pairwise.nil (by simp; omega);rw[show((0:Nat):Int)=0 from rfl] at this;rw[Qez,this];simp[Qp5]
theorem Qaqm:∀ n (l:List Qab) (h:List Nm),n≤1000→nns l≤n→h.length≤9000→Qdt l h=some (h++usL l):=by
 have key:∀ n (l:List Qab) (h:List Nm),n≤1000→nns l≤n→h.length+nns l≤10000→Qdt l h=some (h++usL l):=by
  intro n
  induction n with
  | zero =>
   intro l h _ hl _;cases l with
   | nil=>rw[Qdt,Qd5]; simp[usL]
   | cons x r=>rw[nns] at hl; have:=Qj7 x; omega
  | succ n ih =>
   intro l h hn hl hb;have hlen:l.length≤1001:=Nat.le_trans (Qev l) (by omega);have main:∀ k,k≤l.length→∀ v:List Nm,v.length+nns (l.drop k)≤10000→Qd5 l k v=some (v++usL (l.drop k)):=by
    refine upto ?_ fun k hk ih2=>?_
    ·intro v _;rw[Qd5];simp[usL]
    ·intro v hb;rw[Qct hk,nns,Qi0] at hb;rw[Qd5,Qct hk];have hm:=Qe9 (List.getElem_mem hk);have e1:=Qi0 l[k];simp only[ltI,hk,decide_true,if_true,Qbc,getE hk,Qad];have lT:=Q9f _ _ (Nat.le_refl (nns l[k].Then));have lE:=Q9f _ _ (Nat.le_refl (nns l[k].Else));by_cases hk13:(l[k].Kind==13)=true
     ·rw[if_pos hk13,Qhw (by simp; omega) (by simp; omega),Qad,Qad,ih _ _ (by omega) (by omega) (by simp; omega),Qad,ih _ _ (by omega) (by omega) (by simp; omega),Qad,Qba (by omega),ih2 _ (by simp; omega),usL,Qiz,if_pos hk13];simp
     ·rw[if_neg hk13,Qad,ih _ _ (by omega) (by omega) (by omega),Qad,ih _ _ (by omega) (by omega) (by simp; omega),Qad,Qba (by omega),ih2 _ (by simp; omega),usL,Qiz,if_neg hk13];simp
   have:=main 0 (by omega) h (by simpa using hb);rw[show((0:Nat):Int)=0 from rfl] at this;rw[Qdt,this];simp
 exact fun n l h hn hl hb=>key n l h hn hl (by omega)
theorem Qary(l:List Qab)(h:nns l≤1000):Qpx l=some (Qp5 l):=by
 have hl:=Q9f _ l (Nat.le_refl _);rw[Qpx,Qaqm 1000 l [] (by omega) h (by simp),Qad,List.nil_append,Qsd (by omega),Qad,Qsd (by simp only[srtL,List.length_mergeSort]; omega),Qad];exact congrArg some (Qah6 _)
theorem Qaqn(l:List Qae)(s:Nm)(hl:l.length<9223372036854775807):∀ k,k≤l.length→Qfm l s k=some (match (l.drop k).find? (·.Name==s) with | none =>.inl () | some x =>.inr x.L):=by
 refine upto ?_ fun k hk ih=>?_
 ·rw[Qfm]; simp
 ·rw[Qfm,Qct hk];simp only[ltI,hk,decide_true,if_true,Qbc,getE hk,Qad,List.find?_cons];cases hb:(l[k].Name==s) with
  | true=>simp
  | false =>
   simp only[Bool.false_eq_true,if_false,Qba (show k<9223372036854775807 by omega),ih]
theorem Qaqo(l:List Qae)(s:Nm)(hl:l.length<9223372036854775807):∀ k,k≤l.length→Qig l s k=some (match (l.drop k).find? (·.Name==s) with | none =>.inl () | some x =>.inr x.L):=by
 refine upto ?_ fun k hk ih=>?_
 ·rw[Qig]; simp
 ·rw[Qig,Qct hk];simp only[ltI,hk,decide_true,if_true,Qbc,getE hk,Qad,List.find?_cons];cases hb:(l[k].Name==s) with
  | true=>simp
  | false =>
   simp only[Bool.false_eq_true,if_false,Qba (show k<9223372036854775807 by omega),ih]
def Qk1(l:List Qae)(s:Nm):List Qab×Bool:=match fndT l s with | none=>([],false) | some x=>(x.L,true)
theorem Qam4(l:List Qae)(s:Nm)(hl:l.length<9223372036854775807):Qhn l s=some (Qk1 l s):=by
 have:=Qaqn l s hl 0 (by omega);rw[show((0:Nat):Int)=0 from rfl,List.drop_zero] at this;rw[Qhn,this,Qad,Qk1,fndT];cases l.find? (·.Name==s)<;>rfl
theorem Qac3(l:List Qae)(s:Nm)(hl:l.length<9223372036854775807):Qhm l s=some (Qk1 l s):=by
 have:=Qaqo l s hl 0 (by omega);rw[show((0:Nat):Int)=0 from rfl,List.drop_zero] at this;rw[Qhm,this,Qad,Qk1,fndT];cases l.find? (·.Name==s)<;>rfl
theorem Q6h(l:List Qae)(s:Nm):(Qk1 l s).2=(fndT l s).isSome:=by
 unfold Qk1; cases fndT l s<;>rfl
theorem Qago(l:List Qae)(s:Nm):Qp5 (Qk1 l s).1=suc l s:=by
 unfold Qk1 suc;cases fndT l s with
 | none=>rfl
 | some x=>rfl
theorem Qx0{α : Type}(k x:Nm)(v : α):∀ m:List (Nm × α),mget (fun a b=>a==b) k (mset (fun a b=>a==b) x v m)=if k=x then some v else mget (fun a b=>a==b) k m
 | []=>by
  unfold mset;rw[mget];by_cases h:k=x
  ·simp[h,mget]
  ·simp[h,mget]
 | p::r=>by
  have ih:=Qx0 k x v r;rw[mset];by_cases hx:x=p.1
  ·rw[if_pos (by simpa using hx),mget,mget];by_cases h:k=x
   ·simp[h]
   ·rw[if_neg h];have h2:¬ k=p.1:=fun e=>h (e.trans hx.symm)
    simp[h,h2]
  ·rw[if_neg (by simpa using hx),mget,ih,mget];by_cases h:k=p.1
   ·have h2:¬ k=x:=fun e=>hx (e.symm.trans h)
    rw[if_pos (by simpa using h),if_neg h2,if_pos (by simpa using h)]
   ·simp[h]
def drwP:List Qae→List (Nm×List Nm)→List (Nm×List Nm)
 | [],m=>m
 | x::r,m=>drwP r (if(mget (fun a b=>a==b) x.Name m).isSome then m else mset (fun a b=>a==b) x.Name (Qp5 x.L) m)
theorem Qala(s:Nm):∀ (l:List Qae) (m:List (Nm×List Nm)),mget (fun a b=>a==b) s (drwP l m)=(mget (fun a b=>a==b) s m).or ((fndT l s).map fun x=>Qp5 x.L)
 | [],m=>by
  show mget _ s m=_;cases mget (fun a b=>a==b) s m<;>rfl
 | x::r,m=>by
  rw[drwP,Qala s r];unfold fndT;rw[List.find?_cons];by_cases hx:x.Name=s
  ·have hb:(x.Name==s)=true:=by simpa using hx
   rw[hb];subst hx;cases hm:mget (fun a b=>a==b) x.Name m with
   | some y=>simp[hm]
   | none=>simp[Qx0]
  ·have hb:(x.Name==s)=false:=by simpa using hx
   rw[hb];split
   ·rfl
   ·rw[Qx0,if_neg (fun e=>hx e.symm)]
def grP(l:List Qae):List (Nm×List Nm):=drwP l []
theorem Qanp(l:List Qae)(s:Nm):mget (fun a b=>a==b) s (grP l)=(fndT l s).map fun x=>Qp5 x.L:=by
 rw[grP,Qala]; rfl
theorem Qagp(l:List Qae)(s:Nm):(mget (fun a b=>a==b) s (grP l)).getD []=suc l s:=by
 rw[Qanp,suc]; cases fndT l s<;>rfl
theorem Qao3(l:List Qae)(s:Nm):(mget (fun a b=>a==b) s (grP l)).isSome=(fndT l s).isSome:=by
 rw[Qanp]; cases fndT l s<;>rfl
structure okTs (l:List Qae):Prop where
 len:l.length≤100
 nn:∀ x ∈ l,nns x.L≤100
 ok:∀ x ∈ l,allL okNd x.L
 nm:∀ x ∈ l,x.Name.length≤100
theorem Qaqp(l:List Qae)(ho:okTs l):∀ k,k≤l.length→∀ m,Qdu l k m=some (drwP (l.drop k) m):=by
 have:=ho.len;refine upto ?_ fun k hk ih=>?_
 ·intro m; rw[Qdu]; simp[drwP]
 ·intro m;rw[Qdu,Qct hk,drwP];simp only[ltI,hk,decide_true,if_true,Qbc,getE hk,Qad];have hu:=Qary l[k].L (Nat.le_trans (ho.nn _ (List.getElem_mem hk)) (by omega));cases hb:(mget (fun a b=>a==b) l[k].Name m).isSome with
  | true=>simp only[Bool.not_true,Bool.false_eq_true,if_false,if_true,Qba (show k<9223372036854775807 by omega),ih]
  | false=>simp only[Bool.not_false,if_true,Bool.false_eq_true,if_false,hu,Qad,Qba (show k<9223372036854775807 by omega),ih]
theorem Qaqq(l:List Qae)(ho:okTs l):Qnm l=some (grP l):=by
 have:=Qaqp l ho 0 (by omega) [];rw[show((0:Nat):Int)=0 from rfl,List.drop_zero] at this;rw[Qnm,this]; rfl
theorem Qao4(l:List Nm)(s:Nm)(hl:l.length<9223372036854775807):∀ k,k≤l.length→∃ r,Qbd l s k=some r∧((∃ j:Nat,r = .inr (j:Int))∧s ∈ l.drop k∨r = .inl ()∧s ∉ l.drop k):=by
 refine upto ?_ fun k hk ih=>?_
 ·refine⟨.inl (),?_,.inr ⟨rfl,by simp⟩⟩;rw[Qbd]; simp
 ·rw[Qbd,Qct hk];simp only[ltI,hk,decide_true,if_true,Qbc,getE hk,Qad];by_cases h:s=l[k]
  ·exact⟨.inr (k:Int),by simp[h],.inl ⟨⟨k,rfl⟩,by rw[h]; exact List.mem_cons_self⟩⟩
  ·obtain⟨r,h1,h2⟩:=ih;refine⟨r,?_,?_⟩
   ·simp only[beq_iff_eq,h,if_false,Qba (show k<9223372036854775807 by omega),h1]
   ·simpa only[List.mem_cons,h,false_or] using h2
theorem Qalb(l:List Nm)(s:Nm)(hl:l.length<9223372036854775807):Qbs l s=some (decide (s ∈ l)):=by
 obtain⟨r,h1,h2⟩:=Qao4 l s hl 0 (by omega);rw[show((0:Nat):Int)=0 from rfl] at h1;rw[List.drop_zero] at h2;rw[Qbs,Qc3,h1,Qad];rcases h2 with ⟨⟨j,rfl⟩,h3⟩ | ⟨rfl,h3⟩
 ·have:decide ((j:Int) ≥ 0)=true:=decide_eq_true (by omega);simp only[Qad,this,h3,decide_true]
 ·simp only[Qad,h3,decide_false];rfl
def Met(o:List Nm)(m:List (Nm×Int)):Prop:=∀ s,((mget (fun a b=>a==b) s m).getD 0==0) = !decide (s ∈ o)
theorem Met.set{o:List Nm}{m:List (Nm×Int)}(h:Met o m)(x:Nm):Met (o++[x]) (mset (fun a b=>a==b) x 1 m):=fun s=>by
 rw[Qx0];by_cases hs:s=x
 ·simp[hs]
 ·rw[if_neg hs,h s];simp[hs]
theorem Qaqr(g:List (Nm×List Nm))(x:List Nm)(hx:x.length<9223372036854775807):∀ k,k≤x.length→∀ m,Met (x.take k) m→∃ m', Qcm g x k m=some m' ∧ Met x m' := by
 refine upto ?_ fun k hk ih=>?_
 ·intro m hm;rw[List.take_length] at hm;exact⟨m,by rw[Qcm]; simp,hm⟩
 ·intro m hm;obtain⟨m', h1,h2⟩:=ih _ (by rw[List.take_succ_eq_append_getElem hk]; exact hm.set x[k]);refine⟨m', ?_,h2⟩;rw[Qcm];simp only[ltI,hk,decide_true,if_true,Qbc,getE hk,Qad,Qba (show k<9223372036854775807 by omega),h1]
theorem Qaqs(g:List (Nm×List Nm))(v9:Int)(x5:Nm)(ys:List Nm)(hy:(mget (fun a b=>a==b) x5 g).getD []=ys)(hl:ys.length≤1000):∀ k,k≤ys.length→∀ (out:List Nm) (m:List (Nm×Int)),Met out m→out.Nodup→out.length+(ys.length-k)≤1000000 →
  ∃ ext m', Qb4 g v9 x5 out k m=some (out++ext,m')∧Met (out++ext) m' ∧ (out++ext).Nodup∧(∀ x ∈ ext,x ∈ ys)∧∀ y ∈ ys.drop k,y ∈ out++ext:=by
 refine upto ?_ fun k hk ih=>?_
 ·intro out m hm hn _;refine⟨[],m,?_,by rwa [List.append_nil],by rwa [List.append_nil],fun x hx=>(nomatch hx),by simp⟩;rw[Qb4,hy]; simp
 ·intro out m hm hn hb;rw[Qb4,hy];simp only[ltI,hk,decide_true,if_true,Qbc,getE hk,Qad,hm ys[k]];by_cases hin:ys[k] ∈ out
  ·obtain⟨ext,m', h1,h2,h3,h4,h5⟩:=ih out m hm hn (by omega);refine⟨ext,m', ?_,h2,h3,h4,fun y hy' => ?_⟩
   ·simp only[hin,decide_true,Bool.not_true,Bool.false_eq_true,if_false,Qba (show k<9223372036854775807 by omega),h1]
   ·rw[Qct hk] at hy';rcases List.mem_cons.1 hy' with rfl | hy'
    ·exact List.mem_append_left _ hin
    ·exact h5 y hy'
  ·obtain⟨ext,m', h1,h2,h3,h4,h5⟩:=ih (out++[ys[k]]) _ (hm.set ys[k]) (List.nodup_append.2 ⟨hn,by simp,fun a ha b hb' => by
    rw[List.mem_singleton.1 hb']; intro e; exact hin (e ▸ ha)⟩) (by simp; omega)
   refine⟨ys[k]::ext,m', ?_,?_,?_,fun x hx=>?_,fun y hy' => ?_⟩
   ·simp only[hin,decide_false,Bool.not_false,if_true];rw[Qhw (by simp; omega) (by simp; omega),Qad,Qba (by omega),h1];simp
   ·simpa using h2
   ·simpa using h3
   ·rcases List.mem_cons.1 hx with rfl | hx
    ·exact List.getElem_mem hk
    ·exact h4 x hx
   ·rw[Qct hk] at hy';rcases List.mem_cons.1 hy' with rfl | hy'
    ·simp
    ·simpa using h5 y hy'
theorem Q9g{l:List Qae}(ho:okTs l)(s:Nm):(suc l s).length≤100:=by
 unfold suc;split
 ·simp
 ·rename_i x hx;exact Q26 (ho.nn x (List.mem_of_find?_eq_some hx))
theorem Qaqt{l:List Qae}(ho:okTs l)(hc:closed l):∀ n i (out:List Nm) (m:List (Nm×Int)),l.length≤n+i→i≤out.length→out.Nodup→(∀ x ∈ out,x ∈ nms l)→Met out m→(∀ k,(hk:k<i)→(hk2:k<out.length)→∀ u ∈ suc l out[k],u ∈ out) →
  ∃ out' m', Qb5 (grP l) out i m=some (out', m')∧out'.Nodup∧(∀ x ∈ out,x ∈ out')∧(∀ s ∈ out', ∀ u ∈ suc l s,u ∈ out')∧(∀ x ∈ out', x ∈ nms l)∧∀ C:Nm→Prop,(∀ s,C s→∀ u ∈ suc l s,C u)→(∀ x ∈ out,C x)→∀ x ∈ out', C x:=by
 intro n;have hlen:=ho.len;have fin:∀ i (out:List Nm) (m:List (Nm×Int)),¬ i<out.length→out.Nodup→(∀ x ∈ out,x ∈ nms l)→(∀ k,(hk:k<i)→(hk2:k<out.length)→∀ u ∈ suc l out[k],u ∈ out) →
   ∃ out' m', Qb5 (grP l) out i m=some (out', m')∧out'.Nodup∧(∀ x ∈ out,x ∈ out')∧(∀ s ∈ out', ∀ u ∈ suc l s,u ∈ out')∧(∀ x ∈ out', x ∈ nms l)∧∀ C:Nm→Prop,(∀ s,C s→∀ u ∈ suc l s,C u)→(∀ x ∈ out,C x)→∀ x ∈ out', C x:=fun i out m hi hn hN hs=>by
  refine⟨out,m,?_,hn,fun _ h=>h,fun s hs' u hu=>?_,hN,fun C _ h=>h⟩
  ·rw[Qb5];simp only[ltI,hi,decide_false,Bool.false_eq_true,if_false]
  ·obtain⟨k,hk,rfl⟩:=List.mem_iff_getElem.1 hs';exact hs k (by omega) hk u hu
 induction n with
 | zero =>
  intro i out m hi hio hn hN hm hs;have hle:=List.Nodup.length_le_of_subset hn (l₂ := nms l) fun x hx=>hN x hx
  rw[List.length_map] at hle;exact fin i out m (by omega) hn hN hs
 | succ n ih =>
  intro i out m hi hio hn hN hm hs;by_cases hlt:i<out.length
  ·have hle:=List.Nodup.length_le_of_subset hn (l₂ := nms l) fun x hx=>hN x hx
   rw[List.length_map] at hle;have hsl:=Q9g ho out[i];obtain⟨ext,m1,h1,h2,h3,h4,h5⟩:=Qaqs (grP l) i out[i] _ (Qagp l out[i]) (by omega) 0 (by omega) out m hm hn (by omega);rw[List.drop_zero] at h5;obtain⟨out', m', g1,g2,g3,g4,g5,g6⟩:=ih (i+1) (out++ext) m1 (by omega) (by simp; omega) h3 (fun x hx=>by
    rcases List.mem_append.1 hx with hx | hx
    ·exact hN x hx
    ·exact hc out[i] x (h4 x hx)) h2 (fun k hk hk2 u hu=>by
    have hkl:k<out.length:=by omega
    rw[List.getElem_append_left hkl] at hu;by_cases hki:k=i
    ·subst hki; exact h5 u hu
    ·exact List.mem_append_left _ (hs k (by omega) hkl u hu))
   refine⟨out', m', ?_,g2,fun x hx=>g3 x (List.mem_append_left _ hx),g4,g5,fun C hC h=>g6 C hC fun x hx=>?_⟩
   ·rw[show((0:Nat):Int)=0 from rfl] at h1;rw[Qb5];simp only[ltI,hlt,decide_true,if_true,Qbc,getE hlt,Qad,h1,Qba (show i<9223372036854775807 by omega),g1]
   ·rcases List.mem_append.1 hx with hx | hx
    ·exact h x hx
    ·exact hC out[i] (h _ (List.getElem_mem hlt)) x (h4 x hx)
  ·exact fin i out m hlt hn hN hs
theorem Qaqu{l:List Qae}(ho:okTs l)(hc:closed l){o:List Nm}(hn:o.Nodup)(hN:∀ x ∈ o,x ∈ nms l):Qf4 o (grP l)=some (froP l (upL o)):=by
 have hlen:=ho.len;have hle:=List.Nodup.length_le_of_subset hn (l₂ := nms l) fun x hx=>hN x hx
 rw[List.length_map] at hle;obtain⟨m1,h1,h2⟩:=Qaqr (grP l) o (by omega) 0 (by omega) [] (fun s=>by simp[mget]);obtain⟨out,m2,g1,g2,g3,g4,g5,g6⟩:=Qaqt ho hc l.length 0 o m1 (by omega) (by omega) hn hN h2 (fun k hk=>by omega);have hol:=List.Nodup.length_le_of_subset g2 (l₂ := nms l) fun x hx=>g5 x hx
 rw[List.length_map] at hol;rw[show((0:Nat):Int)=0 from rfl] at h1 g1;rw[Qf4,Qc2,Qhw (by simp; omega) (by simp; omega),Qad,List.nil_append,h1,Qad,g1,Qad,Qsd (by show out.length<_; omega),Qad];refine congrArg some ?_;show(out.mergeSort fun x y=>decide (x≤y))=_;rw[Qak6 g2];have hN2:∀ x ∈ upL o,x ∈ nms l:=fun x hx=>hN x (Qg8.1 hx)
 refine Qxz (Qjr _) (Q28 (Qjr _)) fun x=>?_
 rw[Qg8];exact⟨g6 (fun x=>x ∈ froP l (upL o)) (fun s hs u hu=>Qin hc (Qjr o) hN2 s hs u hu) (fun x hx=>Qq3 (Qg8.2 hx)) x,
  Qmt (C:=fun x=>x ∈ out) (fun s hs u hu=>g4 s hs u hu) (fun x hx=>g3 x (Qg8.1 hx)) x⟩
theorem Qanq{l:List Qae}(ho:okTs l){v:List Nm}(hu:up v)(hN:∀ x ∈ v,x ∈ nms l):v.length≤100:=by
 have hle:=List.Nodup.length_le_of_subset (Qk8 hu) (l₂ := nms l) fun x hx=>hN x hx
 rw[List.length_map] at hle;exact Nat.le_trans hle ho.len
theorem Qarz(l:List Qae)(ho:okTs l)(v7:List Nm)(v8 v10:Int)(x7:List Nm)(hx:x7.length≤1000)(hx2:∀ x ∈ x7,x ∈ nms l):∀ k,k≤x7.length→∀ v:List Nm,up v→(∀ x ∈ v,x ∈ nms l)→Qgx l v7 v8 v10 x7 v k=some (upL (v++x7.drop k)):=by
 refine upto ?_ fun k hk ih=>?_
 ·intro v hv _;rw[Qgx];simp[Qac1 hv]
 ·intro v hv hN;have hl:=Qanq ho hv hN;rw[Qgx,Qct hk];simp only[ltI,hk,decide_true,if_true,Qbc,getE hk,Qad];rw[Qao1 v _ hv (by omega),Qad,Qba (by omega),ih _ (Qwi _ hv) (fun x hx' => by
   rcases (Qk9 _ _ _).1 hx' with rfl | hx'
   ·exact hx2 _ (List.getElem_mem hk)
   ·exact hN x hx')]
  refine congrArg some (Qagl fun y=>?_);simp only[List.mem_append,Qk9,List.mem_cons];constructor
  ·rintro ((h | h) | h)
   ·exact .inr (.inl h)
   ·exact .inl h
   ·exact .inr (.inr h)
  ·rintro (h | h | h)
   ·exact .inl (.inr h)
   ·exact .inl (.inl h)
   ·exact .inr h
theorem Qac4{l:List Qae}(ho:okTs l)(s:Nm):Qez (Qk1 l s).1=some (suc l s):=by
 rw[← Qago];refine Qao2 1000 _ (Nat.le_refl _) ?_;unfold Qk1;cases hf:fndT l s with
 | none=>simp[nns]
 | some x=>exact Nat.le_trans (ho.nn x (List.mem_of_find?_eq_some hf)) (by omega)
theorem Qar0(l:List Qae)(ho:okTs l)(hc:closed l)(v7:List Nm)(hv7:v7.length≤1000)(v8:Int):∀ k,k≤v7.length→∀ v:List Nm,up v→(∀ x ∈ v,x ∈ nms l)→Qgy l v7 v8 v k=some (upL (v++(v7.drop k).flatMap (suc l))):=by
 have hlen:=ho.len;refine upto ?_ fun k hk ih=>?_
 ·intro v hv _;rw[Qgy];simp[Qac1 hv]
 ·intro v hv hN;rw[Qgy,Qct hk];simp only[ltI,hk,decide_true,if_true,Qbc,getE hk,Qad,Qac3 l _ (by omega:l.length<9223372036854775807),Qac4 ho];have h3:=Qarz l ho v7 v8 k (suc l v7[k]) (Nat.le_trans (Q9g ho _) (by omega)) (hc v7[k]) 0 (by omega) v hv hN;rw[show((0:Nat):Int)=0 from rfl,List.drop_zero] at h3;rw[h3,Qad,Qba (by omega),ih _ (Qjr _) (fun x hx=>by
   rw[Qg8,List.mem_append] at hx;exact hx.elim (hN x) (hc _ x))]
  refine congrArg some (Qagl fun y=>?_);simp only[List.mem_append,Qg8,List.flatMap_cons,or_assoc]
theorem Qar1(l:List Qae)(ho:okTs l)(hc:closed l):∀ k,k≤l.length→∀ v:List Nm,up v→(∀ x ∈ v,x ∈ nms l)→Qgz l v k=some (clo l (l.length-k) v):=by
 have hlen:=ho.len;refine upto ?_ fun k hk ih=>?_
 ·intro v _ _;rw[Qgz];simp[clo]
 ·intro v hv hN;have hl:=Qanq ho hv hN;rw[Qgz];simp only[ltI,hk,decide_true,if_true];have h2:=Qar0 l ho hc v (by omega) k 0 (by omega) v hv hN;rw[show((0:Nat):Int)=0 from rfl,List.drop_zero] at h2;rw[h2,Qad,Qba (by omega),ih _ (Qjr _) (fun x hx=>by
   rw[Qg8,List.mem_append,List.mem_flatMap] at hx;exact hx.elim (hN x) fun⟨s,_,hs⟩=>hc s x hs),show l.length-k=(l.length-(k+1))+1 by omega,clo]
  rfl
theorem Qaqv(l:List Qae)(ho:okTs l)(hc:closed l)(s:Nm):Qtc l s=some (reaP l s):=by
 have hlen:=ho.len;have h1:=Qar1 l ho hc 0 (by omega) (suc l s) (Qt0 l s) (hc s);rw[show((0:Nat):Int)=0 from rfl] at h1;rw[Qtc,Qac3 l s (by omega),Qad,Qac4 ho,Qad,h1];rfl
def fitT (x:Qae):Bool:=Qh3 x.Name&&isP x.L
def ck1 (pre:List Qae):List Qae→Option (Nm×Int)
 | []=>none
 | x::r=>if !fitT x then some (x.Name,7) else if(fndT pre x.Name).isSome then some (x.Name,9) else ck1 (pre++[x]) r
def lost(l:List Qae)(x:Qae):Bool:=(suc l x.Name).any fun u => !(fndT l u).isSome
def ring(l:List Qae)(x:Qae):Bool:=decide (x.Name ∈ reaP l x.Name)
def Qgg (l:List Qae):Nm×Int :=
 if l.length>16 then([],5) else
 match ck1 [] l with
 | some b=>b
 | none =>
  match l.find? (lost l) with
  | some x=>(x.Name,4)
  | none =>
   match l.find? (ring l) with
   | some x=>(x.Name,10)
   | none=>([],0)
theorem Qaqw{l:List Qae}{k:Nat}(hk:k<l.length):l.take k++[l[k]]=l.take (k+1):=(List.take_succ_eq_append_getElem hk).symm
theorem Qao5(l:List Qae)(ho:okTs l):∀ k,k≤l.length→Qer l k=some (match ck1 (l.take k) (l.drop k) with | none =>.inl () | some b =>.inr b):=by
 have hlen:=ho.len;refine upto ?_ fun k hk ih=>?_
 ·rw[Qer]; simp[ck1]
 ·have hm:=List.getElem_mem hk;have h1:=Qaop l[k].Name (Nat.lt_of_le_of_lt (ho.nm _ hm) (by omega));have h2:=tIs l[k].L (Nat.le_trans (ho.nn _ hm) (by omega)) (ho.ok _ hm);have h3:cutL l 0 (k:Int)=some (l.take k):=by rw[Qol (by omega) (by omega) (by omega)]; simp
  have h4:=Qam4 (l.take k) l[k].Name (by simp; omega);rw[Qer,Qct hk,ck1];simp only[ltI,hk,decide_true,if_true,Qbc,getE hk,Qad,h1,h2,h3,h4,fitT,Q6h];rcases Bool.eq_false_or_eq_true (Qh3 l[k].Name) with hn | hn
  ·rcases Bool.eq_false_or_eq_true (isP l[k].L) with hi | hi
   ·simp only[hn,hi,Bool.not_true,Bool.false_eq_true,if_false,Qad,Bool.and_true];rcases Bool.eq_false_or_eq_true (fndT (l.take k) l[k].Name).isSome with hf | hf
    ·simp[hf]
    ·simp only[hf,Bool.false_eq_true,if_false,Qba (show k<9223372036854775807 by omega),ih,Qaqw hk]
   ·simp[hn,hi]
  ·simp[hn]
theorem Qao6(l:List Qae)(ho:okTs l):∀ k,k≤l.length→Qgs l k=some (match ck1 (l.take k) (l.drop k) with | none =>.inl () | some b =>.inr b):=by
 have hlen:=ho.len;refine upto ?_ fun k hk ih=>?_
 ·rw[Qgs]; simp[ck1]
 ·have hm:=List.getElem_mem hk;have h1:=Qaoq l[k].Name (Nat.lt_of_le_of_lt (ho.nm _ hm) (by omega));have h2:=rIs l[k].L (Nat.le_trans (ho.nn _ hm) (by omega)) (ho.ok _ hm);have h3:cutL l 0 (k:Int)=some (l.take k):=by rw[Qol (by omega) (by omega) (by omega)]; simp
  have h4:=Qac3 (l.take k) l[k].Name (by simp; omega);rw[Qgs,Qct hk,ck1];simp only[ltI,hk,decide_true,if_true,Qbc,getE hk,Qad,h1,h2,h3,h4,fitT,Q6h];rcases Bool.eq_false_or_eq_true (Qh3 l[k].Name) with hn | hn
  ·rcases Bool.eq_false_or_eq_true (isP l[k].L) with hi | hi
   ·simp only[hn,hi,Bool.not_true,Bool.false_eq_true,if_false,Qad,Bool.and_true];rcases Bool.eq_false_or_eq_true (fndT (l.take k) l[k].Name).isSome with hf | hf
    ·simp[hf]
    ·simp only[hf,Bool.false_eq_true,if_false,Qba (show k<9223372036854775807 by omega),ih,Qaqw hk]
   ·simp[hn,hi]
  ·simp[hn]
theorem Qalc:∀ (l pre:List Qae),(nms pre).Nodup→ck1 pre l=none→(nms (pre++l)).Nodup∧∀ x ∈ l,fitT x=true
 | [],pre,hn,_=>by simpa using hn
 | x::r,pre,hn,h=>by
  unfold ck1 at h;cases hf:fitT x with
  | false=>rw[hf] at h; simp at h
  | true =>
   rw[hf,if_neg (by simp)] at h;cases hs:(fndT pre x.Name).isSome with
   | true=>rw[hs,if_pos rfl] at h; cases h
   | false =>
    rw[hs,if_neg (by simp)] at h;have hnot:x.Name ∉ nms pre:=fun k=>by rw[Q27.2 k] at hs; cases hs
    obtain⟨h1,h2⟩:=Qalc r (pre++[x]) (by
     rw[show nms (pre++[x])=nms pre++[x.Name] from List.map_append];exact List.nodup_append.2 ⟨hn,by simp,fun a ha b hb e=>hnot (by rw[List.mem_singleton.1 hb] at e; exact e ▸ ha)⟩) h
    refine⟨by simpa using h1,fun y hy=>?_⟩;rcases List.mem_cons.1 hy with rfl | hy
    ·exact hf
    ·exact h2 y hy
theorem Qao7(l:List Qae)(v:Int)(x:Qae)(us:List Nm)(hx:suc l x.Name=us)(hl:us.length≤1000):∀ k,k≤us.length→Qes l (grP l) v x k=some (if((us.drop k).any fun u => !(fndT l u).isSome)=true then .inr () else .inl ()):=by
 refine upto ?_ fun k hk ih=>?_
 ·rw[Qes,Qagp,hx]; simp
 ·rw[Qes,Qagp,hx,Qct hk];simp only[ltI,hk,decide_true,if_true,Qbc,getE hk,Qad,Qao3,List.any_cons];rcases Bool.eq_false_or_eq_true (fndT l us[k]).isSome with hb | hb
  ·simp only[hb,Bool.not_true,Bool.false_eq_true,if_false,Bool.false_or,Qba (show k<9223372036854775807 by omega),ih]
  ·simp only[hb,Bool.not_false,if_true,Bool.true_or]
theorem Qao8(l:List Qae)(ho:okTs l):∀ k,k≤l.length→Qet l (grP l) k=some (match (l.drop k).find? (lost l) with | none =>.inl () | some x =>.inr x.Name):=by
 have hlen:=ho.len;refine upto ?_ fun k hk ih=>?_
 ·rw[Qet]; simp
 ·have h3:=Qao7 l k l[k] _ rfl (Nat.le_trans (Q9g ho _) (by omega)) 0 (by omega);rw[show((0:Nat):Int)=0 from rfl,List.drop_zero] at h3;rw[Qet,Qct hk];simp only[ltI,hk,decide_true,if_true,Qbc,getE hk,Qad,h3,List.find?_cons];rw[show((suc l l[k].Name).any fun u => !(fndT l u).isSome)=lost l l[k] from rfl];cases hb:lost l l[k] with
  | true=>rfl
  | false=>simp only[Bool.false_eq_true,if_false,Qba (show k<9223372036854775807 by omega),ih]
theorem Qao9(l:List Qae)(hll:l.length≤1000)(v:Nat)(hv:v<l.length)(us:List Nm)(hl:us.length≤1000):∀ k,k≤us.length→Qgt l v us k=some (if((us.drop k).any fun u => !(fndT l u).isSome)=true then .inr l[v].Name else .inl ()):=by
 refine upto ?_ fun k hk ih=>?_
 ·rw[Qgt]; simp
 ·rw[Qgt,Qct hk];simp only[ltI,hk,decide_true,if_true,Qbc,getE hk,getE hv,Qad,Qac3 l _ (by omega:l.length<9223372036854775807),Q6h,List.any_cons];rcases Bool.eq_false_or_eq_true (fndT l us[k]).isSome with hb | hb
  ·simp only[hb,Bool.not_true,Bool.false_eq_true,if_false,Bool.false_or,Qba (show k<9223372036854775807 by omega),ih]
  ·simp only[hb,Bool.not_false,if_true,Bool.true_or]
theorem Qapa{l:List Qae}(ho:okTs l)(hn:(nms l).Nodup){x:Qae}(hx:x ∈ l):Qez x.L=some (suc l x.Name):=by
 rw[Qao0 hn hx];exact Qao2 1000 _ (Nat.le_refl _) (Nat.le_trans (ho.nn x hx) (by omega))
theorem Qapb(l:List Qae)(ho:okTs l)(hn:(nms l).Nodup):∀ k,k≤l.length→Qgw l k=some (match (l.drop k).find? (lost l) with | none =>.inl () | some x =>.inr x.Name):=by
 have hlen:=ho.len;refine upto ?_ fun k hk ih=>?_
 ·rw[Qgw]; simp
 ·have h3:=Qao9 l (by omega) k hk (suc l l[k].Name) (Nat.le_trans (Q9g ho _) (by omega)) 0 (by omega);rw[show((0:Nat):Int)=0 from rfl,List.drop_zero] at h3;rw[Qgw,Qct hk];simp only[ltI,hk,decide_true,if_true,Qbc,getE hk,Qad,Qapa ho hn (List.getElem_mem hk),h3,List.find?_cons];rw[show((suc l l[k].Name).any fun u => !(fndT l u).isSome)=lost l l[k] from rfl];cases hb:lost l l[k] with
  | true=>rfl
  | false=>simp only[Bool.false_eq_true,if_false,Qba (show k<9223372036854775807 by omega),ih]
theorem Qwj{l:List Qae}(h:l.find? (lost l)=none):closed l:=fun s u hu=>by
 cases hf:fndT l s with
 | none=>unfold suc at hu; rw[hf] at hu; cases hu
 | some x =>
  have hx:=List.mem_of_find?_eq_some hf;have he:x.Name=s:=by have:=List.find?_some hf; simpa using this
  have hl:=List.find?_eq_none.1 h x hx;have hl:lost l x=false:=by simpa using hl
  unfold lost at hl;rw[List.any_eq_false] at hl;have:=hl u (by rw[he]; exact hu);exact Q27.1 (by cases hu2:(fndT l u).isSome with | true=>rfl | false=>rw[hu2] at this; exact absurd rfl this)
theorem Qapc(l:List Qae)(ho:okTs l)(hc:closed l):∀ k,k≤l.length→Qeu l (grP l) k=some (match (l.drop k).find? (ring l) with | none =>.inl () | some x =>.inr x.Name):=by
 have hlen:=ho.len;refine upto ?_ fun k hk ih=>?_
 ·rw[Qeu]; simp
 ·have hf:=Qaqu ho hc (Qk8 (Qt0 l l[k].Name)) (hc l[k].Name);rw[Qac1 (Qt0 l l[k].Name)] at hf;have hfl:=Qagm hc (Qt0 l l[k].Name) (hc l[k].Name);rw[Qeu,Qct hk];simp only[ltI,hk,decide_true,if_true,Qbc,getE hk,Qad,Qagp,hf,Qalb _ l[k].Name (by omega:(froP l (suc l l[k].Name)).length<9223372036854775807),List.find?_cons];rw[show decide (l[k].Name ∈ froP l (suc l l[k].Name))=ring l l[k] from rfl];cases hb:ring l l[k] with
  | true=>rfl
  | false=>simp only[Bool.false_eq_true,if_false,Qba (show k<9223372036854775807 by omega),ih]
theorem Qapd(l:List Qae)(ho:okTs l)(hc:closed l):∀ k,k≤l.length→Qg0 l k=some (match (l.drop k).find? (ring l) with | none =>.inl () | some x =>.inr x.Name):=by
 have hlen:=ho.len;refine upto ?_ fun k hk ih=>?_
 ·rw[Qg0]; simp
 ·have hfl:=Qagm hc (Qt0 l l[k].Name) (hc l[k].Name);rw[Qg0,Qct hk];simp only[ltI,hk,decide_true,if_true,Qbc,getE hk,Qad,Qaqv l ho hc,rIn (reaP l l[k].Name) l[k].Name (show(froP l (suc l l[k].Name)).length<9223372036854775807 by omega),List.find?_cons];rw[show decide (l[k].Name ∈ reaP l l[k].Name)=ring l l[k] from rfl];cases hb:ring l l[k] with
  | true=>rfl
  | false=>simp only[Bool.false_eq_true,if_false,Qba (show k<9223372036854775807 by omega),ih]
theorem Qaqx(n:Nat):decide ((n:Int)>16)=decide (n>16):=by
 by_cases h:n>16
 ·rw[decide_eq_true h]; exact decide_eq_true (by omega)
 ·rw[decide_eq_false h]; exact decide_eq_false (by omega)
theorem Qanr(l:List Qae)(ho:okTs l):Qkn l=some (Qgg l):=by
 have h1:=Qao5 l ho 0 (by omega);have h2:=Qao8 l ho 0 (by omega);have h4:=fun hc=>Qapc l ho hc 0 (by omega)
 rw[show((0:Nat):Int)=0 from rfl] at h1 h2;rw[List.take_zero,List.drop_zero] at h1;rw[List.drop_zero] at h2;rw[Qkn,Qgg,Qaqx];by_cases hm:l.length>16
 ·simp[hm]
 ·simp only[hm,decide_false,Bool.false_eq_true,if_false,h1,Qad,Qaqq l ho];cases hk:ck1 [] l with
  | some b=>rfl
  | none =>
   simp only[h2,Qad];cases hl:l.find? (lost l) with
   | some x=>rfl
   | none =>
    have h4:=h4 (Qwj hl);rw[show((0:Nat):Int)=0 from rfl,List.drop_zero] at h4;simp only[h4,Qad];cases hr:l.find? (ring l)<;>rfl
theorem Qans(l:List Qae)(ho:okTs l):Qpt l=some (Qgg l):=by
 have h1:=Qao6 l ho 0 (by omega);have h2:=fun hn=>Qapb l ho hn 0 (by omega)
 have h4:=fun hc=>Qapd l ho hc 0 (by omega)
 rw[show((0:Nat):Int)=0 from rfl] at h1;rw[List.take_zero,List.drop_zero] at h1;rw[Qpt,Qgg,Qaqx];by_cases hm:l.length>16
 ·simp[hm]
 ·simp only[hm,decide_false,Bool.false_eq_true,if_false,h1,Qad];cases hk:ck1 [] l with
  | some b=>rfl
  | none =>
   have h2:=h2 (Qalc l [] (by simp) hk).1;rw[show((0:Nat):Int)=0 from rfl,List.drop_zero] at h2;simp only[h2,Qad];cases hl:l.find? (lost l) with
   | some x=>rfl
   | none =>
    have h4:=h4 (Qwj hl);rw[show((0:Nat):Int)=0 from rfl,List.drop_zero] at h4;simp only[h4,Qad];cases hr:l.find? (ring l)<;>rfl
structure fine (l:List Qae):Prop where
 many:l.length≤16
 nodup:(nms l).Nodup
 fit:∀ x ∈ l,fitT x=true
 closed:closed l
 noring:∀ s ∈ nms l,s ∉ reaP l s
theorem Quj{l:List Qae}(h:(Qgg l).2=0):fine l∧(Qgg l).1=[]:=by
 unfold Qgg at h ⊢;by_cases hm:l.length>16
 ·rw[if_pos hm] at h; cases h
 ·rw[if_neg hm] at h ⊢;cases hk:ck1 [] l with
  | some b =>
   rw[hk] at h;exfalso;have key:∀ (r pre:List Qae) (b:Nm×Int),ck1 pre r=some b→b.2≠0:=by
    intro r
    induction r with
    | nil=>intro pre b hb; cases hb
    | cons x r ih =>
     intro pre b hb;unfold ck1 at hb;split at hb
     ·cases hb; exact fun e=>by cases e
     ·split at hb
      ·cases hb; exact fun e=>by cases e
      ·exact ih _ _ hb
   exact key l [] b hk h
  | none =>
   rw[hk] at h;simp only at h ⊢;obtain⟨a1,a2⟩:=Qalc l [] (by simp) hk;cases hl:l.find? (lost l) with
   | some x=>rw[hl] at h; cases h
   | none =>
    rw[hl] at h;simp only at h ⊢;cases hr:l.find? (ring l) with
    | some x=>rw[hr] at h; cases h
    | none =>
     refine⟨⟨by omega,a1,a2,Qwj hl,fun s hs hin=>?_⟩,rfl⟩;obtain⟨x,hx,rfl⟩:=List.mem_map.1 hs;have:=List.find?_eq_none.1 hr x hx;exact this (by unfold ring; exact decide_eq_true hin)
def bndP(l:List Qah)(s:Nm):Bool:=match l.reverse.find? (·.Name==s) with | none=>false | some b=>b.Secret
mutual
def secN:Qab→List Qah→Bool
 | ⟨k,s,_,_,a,_,_⟩,l=>if k==7 then true else if k==4 then bndP l s else if k==5||k==6 then secL a l else false
def secL:List Qab→List Qah→Bool
 | [],_=>false
 | x::r,l=>secN x l||secL r l
end
theorem Qaez(x:Qab)(l:List Qah):secN x l=if x.Kind==7 then true else if x.Kind==4 then bndP l x.Name else if x.Kind==5||x.Kind==6 then secL x.L l else false:=by cases x; rw[secN]
theorem Qagq{α : Type}(l:List α)(k:Nat)(hk:k<l.length):(l.take (k+1)).reverse=l[k]::(l.take k).reverse:=by
 rw[List.take_succ_eq_append_getElem hk,List.reverse_append]; rfl
theorem Qaqy(l:List Qah)(s:Nm)(hl:l.length≤1000):∀ k,k≤l.length→Qg7 l s ((k:Int)-1)=some (match (l.take k).reverse.find? (·.Name==s) with | none =>.inl () | some b =>.inr b.Secret)
 | 0,_=>by rw[Qg7]; simp
 | k+1,hk=>by
  have e:(((k+1:Nat):Int)-1)=(k:Int):=by omega
  have hp:decide ((k:Int) ≥ 0)=true:=decide_eq_true (by omega);have e2:wr ((k:Int)-1)=(k:Int)-1:=Qhh (by omega) (by omega);rw[Qg7,e,hp,if_pos rfl,Qbc,getE (show k<l.length by omega),Qad,Qagq l k (by omega),List.find?_cons];rcases Bool.eq_false_or_eq_true (l[k].Name==s) with hb | hb
  ·simp only[hb,if_true,Qad]
  ·simp only[hb,Bool.false_eq_true,if_false];rw[e2];exact Qaqy l s hl k (by omega)
theorem rBnd(l:List Qah)(s:Nm)(hl:l.length≤1000):Qtw l s=some (bndP l s):=by
 have:=Qaqy l s hl l.length (Nat.le_refl _);rw[List.take_length] at this;rw[Qtw,Qhh (by omega) (by omega),this,bndP,Qad];cases l.reverse.find? (·.Name==s)<;>rfl
theorem Qaqz(x:Qab)(l:List Qah)(hl:l.length≤1000):∀ k,k≤l.length→Qd9 x l ((k:Int)-1)=some (match (l.take k).reverse.find? (·.Name==x.Name) with | none =>.inl () | some b =>.inr b.Secret)
 | 0,_=>by rw[Qd9]; simp
 | k+1,hk=>by
  have e:(((k+1:Nat):Int)-1)=(k:Int):=by omega
  have hp:decide ((k:Int) ≥ 0)=true:=decide_eq_true (by omega);have e2:wr ((k:Int)-1)=(k:Int)-1:=Qhh (by omega) (by omega);rw[Qd9,e,hp,if_pos rfl,Qbc,getE (show k<l.length by omega),Qad,Qagq l k (by omega),List.find?_cons];rcases Bool.eq_false_or_eq_true (l[k].Name==x.Name) with hb | hb
  ·simp only[hb,if_true,Qad]
  ·simp only[hb,Bool.false_eq_true,if_false];rw[e2];exact Qaqz x l hl k (by omega)
theorem Qar2(x:Qab)(l:List Qah)(hx:x.L.length<9223372036854775807)(ih:∀ y ∈ x.L,Qog y l=some (secN y l)):∀ k,k≤x.L.length→Qky x l k=some (if secL (x.L.drop k) l=true then .inr () else .inl ()):=by
 refine upto ?_ fun k hk ih2=>?_
 ·rw[Qky]; simp[secL]
 ·rw[Qky,Qct hk,secL];simp only[ltI,hk,decide_true,if_true,Qbc,getE hk,Qad,ih _ (List.getElem_mem hk)];rcases Bool.eq_false_or_eq_true (secN x.L[k] l) with hb | hb
  ·simp only[hb,if_true,Bool.true_or]
  ·simp only[hb,Bool.false_eq_true,if_false,Bool.false_or,Qba (show k<9223372036854775807 by omega),ih2]
theorem rSec(l:List Qah)(hl:l.length≤1000):∀ n (x:Qab),n<1000000000→nn x≤n→Qog x l=some (secN x l)
 | 0,x,_,h=>by have:=Qj7 x; omega
 | n+1,x,hn,h=>by
  have e:=Qi0 x;have hlen:=Qev x.L;rw[Qog,Qaez,rBnd l _ hl];by_cases h7:(x.Kind==7)=true
  ·rw[if_pos h7,if_pos h7]
  ·rw[if_neg h7,if_neg h7];by_cases h4:(x.Kind==4)=true
   ·rw[if_pos h4,if_pos h4]; rfl
   ·rw[if_neg h4,if_neg h4];have hL:=Qar2 x l (by omega) (fun y hy=>rSec l hl n y (by omega) (by have:=Qe9 hy; omega)) 0 (by omega);rw[show((0:Nat):Int)=0 from rfl,List.drop_zero] at hL;by_cases h5:x.Kind=5
    ·have b1:(x.Kind != 5)=false:=by simp[h5]
     have b2:(x.Kind==5||x.Kind==6)=true:=by simp[h5]
     rw[b1,b2,if_neg (by simp),Qad,if_neg (by simp),if_pos rfl,hL,Qad];rcases Bool.eq_false_or_eq_true (secL x.L l) with hb | hb<;>simp only[hb]<;>rfl
    ·have b1:(x.Kind != 5)=true:=by simp[h5]
     rw[b1,if_pos rfl,Qad];by_cases h6:x.Kind=6
     ·have b2:(x.Kind==5||x.Kind==6)=true:=by simp[h6]
      have b3:(x.Kind != 6)=false:=by simp[h6]
      rw[b3,b2,if_neg (by simp),if_pos rfl,hL,Qad];rcases Bool.eq_false_or_eq_true (secL x.L l) with hb | hb<;>simp only[hb]<;>rfl
     ·have b2:(x.Kind==5||x.Kind==6)=false:=by simp[h5,h6]
      have b3:(x.Kind != 6)=true:=by simp[h6]
      rw[b3,b2,if_pos rfl,if_neg (by simp)]
theorem Qar3(a:List Qab)(l:List Qah)(hx:a.length<9223372036854775807)(ih:∀ y ∈ a,Qek y l=some (secN y l)):∀ k,k≤a.length→∃ r,Qav a l k=some r∧((∃ j:Nat,r = .inr (j:Int))∧secL (a.drop k) l=true∨r = .inl ()∧secL (a.drop k) l=false):=by
 refine upto ?_ fun k hk ih2=>?_
 ·refine⟨.inl (),?_,.inr ⟨rfl,by simp[secL]⟩⟩;rw[Qav]; simp
 ·obtain⟨r,h1,h2⟩:=ih2;rw[Qav,Qct hk,secL];simp only[ltI,hk,decide_true,if_true,Qbc,getE hk,Qad,Qo6,ih _ (List.getElem_mem hk)];rcases Bool.eq_false_or_eq_true (secN a[k] l) with hb | hb
  ·exact⟨.inr (k:Int),by simp only[hb,if_true],.inl ⟨⟨k,rfl⟩,by simp only[hb,Bool.true_or]⟩⟩
  ·refine⟨r,?_,?_⟩
   ·simp only[hb,Bool.false_eq_true,if_false,Qba (show k<9223372036854775807 by omega),h1]
   ·simpa only[hb,Bool.false_or] using h2
theorem cSec(l:List Qah)(hl:l.length≤1000):∀ n (x:Qab),n<1000000000→nn x≤n→Qek x l=some (secN x l)
 | 0,x,_,h=>by have:=Qj7 x; omega
 | n+1,x,hn,h=>by
  have e:=Qi0 x;have hlen:=Qev x.L;have hB:=Qaqz x l hl l.length (Nat.le_refl _);rw[List.take_length] at hB;rw[Qek,Qaez,Qhh (by omega) (by omega),hB];by_cases h7:(x.Kind==7)=true
  ·rw[if_pos h7,if_pos h7]
  ·rw[if_neg h7,if_neg h7];by_cases h4:(x.Kind==4)=true
   ·rw[if_pos h4,if_pos h4,bndP,Qad];cases l.reverse.find? (·.Name==x.Name)<;>rfl
   ·rw[if_neg h4,if_neg h4];obtain⟨r,h1,h2⟩:=Qar3 x.L l (by omega) (fun y hy=>cSec l hl n y (by omega) (by have:=Qe9 hy; omega)) 0 (by omega);rw[show((0:Nat):Int)=0 from rfl] at h1;rw[List.drop_zero] at h2;have hC:Qa7 x.L l=some (secL x.L l):=by
     rw[Qa7,Qbk,h1,Qad];rcases h2 with ⟨⟨j,rfl⟩,h3⟩ | ⟨rfl,h3⟩
     ·have:decide ((j:Int) ≥ 0)=true:=decide_eq_true (by omega);simp only[Qad,this,h3]
     ·simp only[Qad,h3]; rfl
    by_cases h5:x.Kind=5
    ·have b1:(x.Kind==5)=true:=by simp[h5]
     rw[b1,if_pos rfl,Qad,if_pos rfl,hC];rfl
    ·have b1:(x.Kind==5)=false:=by simp[h5]
     rw[b1,if_neg (by simp),Qad,Bool.false_or];by_cases h6:(x.Kind==6)=true
     ·rw[h6,if_pos rfl,if_pos rfl,hC]; rfl
     ·rw[if_neg h6,if_neg h6]
def Qp6(k:Int)(nm:Nm)(s:Bool)(bs:List Qah):List Qah:=if k==11 then bs++[⟨nm,0,false⟩] else if k==12 then bs++[⟨nm,0,s⟩] else bs
def hdS(a:List Qab)(bs:List Qah):Bool:=match a with | []=>false | y::_=>secN y bs
abbrev Qmk:Qa6:=⟨[],false,false⟩
mutual
def stS(U:Nm→Bool→Qa6)(w:Nm):Qab→List Qah→Qa6
 | ⟨k,nm,_,_,a,t,e⟩,bs =>
  if k==8 then Qmk else
  if hdS a bs&&(k==10||k==11) then⟨w,true,false⟩ else
  if(blS U w t (Qp6 k nm (hdS a bs) bs)).Bad then blS U w t (Qp6 k nm (hdS a bs) bs) else
  if(blS U w e bs).Bad then blS U w e bs else
  if(if k==13 then U nm (hdS a bs) else Qmk).Bad then U nm (hdS a bs) else
  ⟨[],false,(k==9&&hdS a bs)||((blS U w t (Qp6 k nm (hdS a bs) bs)).Tells||((blS U w e bs).Tells||(if k==13 then U nm (hdS a bs) else Qmk).Tells))⟩
def blS(U:Nm→Bool→Qa6)(w:Nm):List Qab→List Qah→Qa6
 | [],_=>Qmk
 | x::r,bs=>if(stS U w x bs).Bad then stS U w x bs else if(blS U w r bs).Bad then blS U w r bs else⟨[],false,(stS U w x bs).Tells||(blS U w r bs).Tells⟩
end
theorem Qac5(U:Nm→Bool→Qa6)(w:Nm)(x:Qab)(bs:List Qah):stS U w x bs =
  if x.Kind==8 then Qmk else
  if hdS x.L bs&&(x.Kind==10||x.Kind==11) then⟨w,true,false⟩ else
  if(blS U w x.Then (Qp6 x.Kind x.Name (hdS x.L bs) bs)).Bad then blS U w x.Then (Qp6 x.Kind x.Name (hdS x.L bs) bs) else
  if(blS U w x.Else bs).Bad then blS U w x.Else bs else
  if(if x.Kind==13 then U x.Name (hdS x.L bs) else Qmk).Bad then U x.Name (hdS x.L bs) else
  ⟨[],false,(x.Kind==9&&hdS x.L bs)||((blS U w x.Then (Qp6 x.Kind x.Name (hdS x.L bs) bs)).Tells||((blS U w x.Else bs).Tells||(if x.Kind==13 then U x.Name (hdS x.L bs) else Qmk).Tells))⟩:=by cases x; rw[stS]
theorem Qagr{U V:Nm→Bool→Qa6}(w:Nm):∀ n (l:List Qab) (bs:List Qah),nns l≤n→(∀ u ∈ usL l,∀ b,U u b=V u b)→blS U w l bs=blS V w l bs:=by
 intro n
 induction n with
 | zero =>
  intro l bs h _;cases l with
  | nil=>rw[blS,blS]
  | cons x r=>rw[nns] at h; have:=Qj7 x; omega
 | succ n ih =>
  intro l
  induction l with
  | nil=>intro bs _ _; rw[blS,blS]
  | cons x r ihr =>
   intro bs h hU;rw[nns] at h;have e:=Qi0 x;have h1:∀ u ∈ usL x.Then,∀ b,U u b=V u b:=fun u hu=>hU u (by rw[usL,Qiz]; simp[hu])
   have h2:∀ u ∈ usL x.Else,∀ b,U u b=V u b:=fun u hu=>hU u (by rw[usL,Qiz]; simp[hu])
   have h3:∀ b,(if x.Kind==13 then U x.Name b else Qmk)=(if x.Kind==13 then V x.Name b else Qmk):=fun b=>by
    split
    ·rename_i hk;exact hU x.Name (by rw[usL,Qiz,if_pos hk]; simp) b
    ·rfl
   have hs:stS U w x bs=stS V w x bs:=by
    rw[Qac5,Qac5,ih x.Then _ (by omega) h1,ih x.Else _ (by omega) h2,h3];split
    ·rfl
    ·split
     ·rfl
     ·split
      ·rfl
      ·split
       ·rfl
       ·by_cases hk:x.Kind==13
        ·rw[if_pos hk,hU x.Name (by rw[usL,Qiz,if_pos hk]; simp)]
        ·rw[if_neg hk]; rfl
   rw[blS,blS,hs,ihr bs (by omega) fun u hu=>hU u (by rw[usL]; simp[hu])]
def itB(b:Bool):List Qah:=[⟨[103,114,111,117,112],0,false⟩,⟨[105,116],0,b⟩]
def uF(l:List Qae):Nat→Nm→Bool→Qa6
 | 0,_,_=>Qmk
 | n+1,s,b=>blS (uF l n) s (Qk1 l s).1 (itB b)
def uS(l:List Qae)(s:Nm)(b:Bool):Qa6:=uF l ((reaP l s).length+1) s b
theorem Qpa{l:List Qae}{s u:Nm}(h:u ∈ usL (Qk1 l s).1):u ∈ suc l s:=by
 rw[← Qago]; exact Qg8.2 h
theorem Qald{l:List Qae}(hf:fine l):∀ n m s b,(reaP l s).length<n→(reaP l s).length<m→uF l n s b=uF l m s b
 | 0,_,_,_,h,_=>absurd h (Nat.not_lt_zero _)
 | _+1,0,_,_,_,h=>absurd h (Nat.not_lt_zero _)
 | n+1,m+1,s,b,h1,h2=>by
  rw[uF,uF];refine Qagr s _ _ _ (Nat.le_refl _) fun u hu b' => ?_
  have:=Qla hf.closed hf.noring (Qpa hu);exact Qald hf n m u b' (by omega) (by omega)
theorem Qale{l:List Qae}(hf:fine l)(s:Nm)(b:Bool):uS l s b=blS (uS l) s (Qk1 l s).1 (itB b):=by
 rw[uS,uF];refine Qagr s _ _ _ (Nat.le_refl _) fun u hu b' => ?_
 have:=Qla hf.closed hf.noring (Qpa hu);exact Qald hf _ _ u b' (by omega) (by omega)
mutual
def goN:Qab→Prop
 | ⟨k,_,_,_,a,t,e⟩=>(k≠8→a.length=1)∧(k=13∨k=9→t=[]∧e=[])∧goL t∧goL e
def goL:List Qab→Prop
 | []=>True
 | x::r=>goN x∧goL r
end
theorem Qalf(x:Qab):goN x↔(x.Kind≠8→x.L.length=1)∧(x.Kind=13∨x.Kind=9→x.Then=[]∧x.Else=[])∧goL x.Then∧goL x.Else:=by cases x; rw[goN]
theorem Qae0:∀ {l:List Qab} {x:Qab},x ∈ l→goL l→goN x
 | y::r,x,h,hg=>by
  rw[goL] at hg;rcases List.mem_cons.1 h with rfl | h
  ·exact hg.1
  ·exact Qae0 h hg.2
theorem Qam5:∀ n (l:List Qab) (b:Bool),nns l≤n→Qbw l b=true→goL l:=by
 intro n
 induction n with
 | zero =>
  intro l b h _;cases l with
  | nil=>rw[goL]; trivial
  | cons x r=>rw[nns] at h; have:=Qj7 x; omega
 | succ n ih =>
  intro l
  induction l with
  | nil=>intro _ _ _; rw[goL]; trivial
  | cons x r ihr =>
   intro b h hb;rw[nns] at h;have e:=Qi0 x;rw[Qbw,Bool.and_eq_true,Bool.and_eq_true] at hb;rw[goL];refine⟨?_,ihr b (by omega) hb.2.2⟩;have hs:=hb.1;rw[Qq1] at hs;rw[Qalf];have nilg:goL []:=by rw[goL]; trivial
   by_cases h8:x.Kind=8
   ·rw[if_pos (by simpa using h8)] at hs;simp only[Bool.and_eq_true] at hs;have hT:=Qxy hs.2.2.2.2.2.1;have hE:=Qxy hs.2.2.2.2.2.2;rw[hT,hE];exact⟨fun k=>absurd h8 k,fun _=>⟨rfl,rfl⟩,nilg,nilg⟩
   ·rw[if_neg (by simpa using h8)] at hs;by_cases h9:x.Kind=9
    ·rw[if_pos (by simpa using h9)] at hs;simp only[Bool.and_eq_true,beq_iff_eq] at hs;have hT:=Qxy hs.2.2.2.2.1;have hE:=Qxy hs.2.2.2.2.2;rw[hT,hE];exact⟨fun _=>hs.1.1,fun _=>⟨rfl,rfl⟩,nilg,nilg⟩
    ·rw[if_neg (by simpa using h9)] at hs;by_cases h10:x.Kind=10
     ·rw[if_pos (by simpa using h10)] at hs;simp only[Bool.and_eq_true,beq_iff_eq] at hs;exact⟨fun _=>hs.1.1,fun k=>by rcases k with k | k<;>(rw[h10] at k; cases k),ih _ true (by omega) hs.2.1.1,ih _ true (by omega) hs.2.1.2⟩
     ·rw[if_neg (by simpa using h10)] at hs;by_cases h11:(x.Kind==11||x.Kind==12)=true
      ·rw[if_pos h11] at hs;simp only[Bool.and_eq_true,beq_iff_eq] at hs;have hE:=Qxy hs.2.2.2.2.2;rw[hE];exact⟨fun _=>hs.2.1.1,fun k=>by
        rw[Bool.or_eq_true,beq_iff_eq,beq_iff_eq] at h11;omega,ih _ true (by omega) hs.2.2.1,nilg⟩
      ·rw[if_neg h11] at hs;by_cases h13:x.Kind=13
       ·rw[if_pos (by simpa using h13)] at hs;simp only[Bool.and_eq_true,beq_iff_eq] at hs;have hT:=Qxy hs.2.2.2.2.1;have hE:=Qxy hs.2.2.2.2.2;rw[hT,hE];exact⟨fun _=>hs.2.1.1,fun _=>⟨rfl,rfl⟩,nilg,nilg⟩
       ·rw[if_neg (by simpa using h13)] at hs;cases hs
theorem Q29{l:List Qae}(hf:fine l)(s:Nm):goL (Qk1 l s).1:=by
 unfold Qk1;cases hq:fndT l s with
 | none=>show goL []; rw[goL]; trivial
 | some x =>
  have:=hf.fit x (List.mem_of_find?_eq_some hq);unfold fitT isP at this;simp only[Bool.and_eq_true] at this;exact Qam5 _ x.L false (Nat.le_refl _) this.2.2.2
theorem Qq4{l:List Qae}(ho:okTs l)(s:Nm):nns (Qk1 l s).1≤100:=by
 unfold Qk1;cases hq:fndT l s with
 | none=>simp[nns]
 | some x=>exact ho.nn x (List.mem_of_find?_eq_some hq)
theorem Qags(k:Int)(nm:Nm)(s:Bool)(bs:List Qah):(Qp6 k nm s bs).length≤bs.length+1:=by
 unfold Qp6;split
 ·simp
 ·split<;>simp
theorem Qpb:∀ {q:List Qab} {x:Qab},x ∈ q→∀ v ∈ usN x,v ∈ usL q
 | z::q,x,hx,v,hv=>by
  rw[usL,List.mem_append];rcases List.mem_cons.1 hx with rfl | hx
  ·exact .inl hv
  ·exact .inr (Qpb hx v hv)
theorem Qaq0(x:Qab)(s:Bool)(bs:List Qah)(hb:bs.length≤1000){R:Type}(K:List Qah→Option R) :
  (appL 32 [] bs>>=fun x11=>(if x.Kind==11 then appL 32 x11 [(Qah.mk x.Name 0 false)]>>=fun x13=>some x13 else some x11)>>=fun o12=>(if x.Kind==12 then appL 32 o12 [(Qah.mk x.Name 0 s)]>>=fun x15=>some x15 else some o12)>>=K)=K (Qp6 x.Kind x.Name s bs):=by
 rw[Qhw (by simp; omega) (by simp; omega),Qad,List.nil_append];unfold Qp6;by_cases h11:(x.Kind==11)=true
 ·have h12:¬ (x.Kind==12)=true:=by rw[beq_iff_eq] at h11 ⊢; omega
  rw[if_pos h11,if_pos h11,Qhw (by simp; omega) (by simp; omega),Qad,Qad,if_neg h12,Qad]
 ·rw[if_neg h11,if_neg h11,Qad];by_cases h12:(x.Kind==12)=true
  ·rw[if_pos h12,if_pos h12,Qhw (by simp; omega) (by simp; omega),Qad,Qad]
  ·rw[if_neg h12,if_neg h12,Qad]
def RUse(l:List Qae)(u:Nm):Prop:=∀ b,Qe6 l u (Qk1 l u).1 (itB b)=some (uS l u b)
def Qaq1(f:Qa6)(acc:Bool):Option (Bool⊕(Nm×Bool×Bool×Bool))→Prop
 | some (.inl t)=>f.Bad=false∧t=(acc||f.Tells)
 | some (.inr q)=>f.Bad=true∧f=⟨q.1,q.2.1,q.2.2.1⟩
 | none=>False
theorem Qalg(U:Nm→Bool→Qa6)(w:Nm):∀ (l:List Qab) (bs:List Qah),(blS U w l bs).Bad=false→(blS U w l bs).Where=[]
 | [],bs,_=>by rw[blS]
 | x::r,bs,h=>by
  rw[blS] at h ⊢;split at h
  ·rename_i hb; rw[hb] at h; cases h
  ·rename_i hb;rw[if_neg hb];split at h
   ·rename_i hc; rw[hc] at h; cases h
   ·rename_i hc;rw[if_neg hc]
theorem Qalh{f:Qa6}(h:f.Bad=false)(hw:f.Where=[]):f=⟨[],false,f.Tells⟩:=by cases f; simp_all
theorem Qali{l:List Qae}(ho:okTs l)(w:Nm):∀ n (nl:List Qab) (bs:List Qah),nns nl≤n→n≤100→bs.length+n≤900→goL nl→(∀ u ∈ usL nl,RUse l u)→Qe6 l w nl bs=some (blS (uS l) w nl bs):=by
 intro n;have hlen:=ho.len
 induction n with
 | zero =>
  intro nl bs h _ _ _ _;cases nl with
  | nil=>rw[Qe6,Qdh,blS]; rfl
  | cons x r=>rw[nns] at h; have:=Qj7 x; omega
 | succ n ih =>
  intro nl bs h hn hb hg hU;have hll:=Qev nl;have key:∀ k,k≤nl.length→∀ acc,Qaq1 (blS (uS l) w (nl.drop k) bs) acc (Qdh l w nl bs k acc):=by
   refine upto ?_ fun k hk ih2=>?_
   ·intro acc;have:decide (((nl.length:Nat):Int)<(nl.length:Int))=false:=decide_eq_false (by omega);rw[Qdh,this,if_neg (by simp),Qad,if_neg (by simp),List.drop_length,blS];exact⟨rfl,by simp⟩
   ·intro acc;have hm:=List.getElem_mem hk;have hnn:=Qe9 hm;have e:=Qi0 nl[k];have hgk:=(Qalf _).1 (Qae0 hm hg);rw[Qdh,ltI,decide_eq_true hk,if_pos rfl,Qad,if_pos rfl,Qbc,getE hk,Qad,Qct hk,blS,Qba (show k<9223372036854775807 by omega),Qac5];by_cases h8:(nl[k].Kind==8)=true
    ·rw[if_pos h8,if_pos h8];have:=ih2 acc;rw[if_neg (by simp)];split
     ·rename_i hbad;exact this
     ·rename_i hbad;have hbad:(blS (uS l) w (nl.drop (k+1)) bs).Bad=false:=by simpa using hbad
      revert this;generalize Qdh l w nl bs ((k+1:Nat):Int) acc=o;intro this
      match o,this with
      | some (.inl t),this=>exact⟨rfl,by rw[this.2]; simp⟩
      | some (.inr q),this=>have:=this.1; rw[hbad] at this; cases this
    ·rw[if_neg h8,if_neg h8];have hl1:=hgk.1 (by simpa using h8);obtain⟨y,hy⟩:∃ y,nl[k].L=[y]:=List.length_eq_one_iff.1 hl1;have hny:nn y≤100:=by
      have:nn y≤nns nl[k].L:=Qe9 (by rw[hy]; simp);omega
     have hi0:idx nl[k].L 0=some y:=by rw[hy]; rfl
     have hhd:hdS nl[k].L bs=secN y bs:=by rw[hy]; rfl
     rw[hi0,Qad,rSec bs (by omega) 100 y (by omega) hny,Qad,hhd];generalize hs:secN y bs=s;have hT:=fun m (hm2:m.length≤bs.length+1)=>ih nl[k].Then m (by omega) (by omega) (by omega) hgk.2.2.1 fun u hu=>hU u (by
      exact Qpb hm u (by rw[Qiz]; simp[hu]))
     have hE:=ih nl[k].Else bs (by omega) (by omega) (by omega) hgk.2.2.2 fun u hu=>hU u (by
      exact Qpb hm u (by rw[Qiz]; simp[hu]))
     have hUse:(nl[k].Kind==13)=true→RUse l nl[k].Name:=fun h13=>hU _ (by
      exact Qpb hm _ (by rw[Qiz,if_pos h13]; simp))
     have hacc:((if nl[k].Kind==9 then some s else some false:Option Bool)>>=fun o9=>if o9=true then some true else some acc)=some (acc||(nl[k].Kind==9&&s)):=by
      rcases Bool.eq_false_or_eq_true (nl[k].Kind==9) with h9 | h9<;>cases s<;>cases acc<;>simp[h9]
     have hbad:(if s=true then(if(nl[k].Kind==10)=true then some true else some (nl[k].Kind==11)) else some false:Option Bool)=some (s&&(nl[k].Kind==10||nl[k].Kind==11)):=by
      rcases Bool.eq_false_or_eq_true (nl[k].Kind==10) with h9 | h9<;>cases s<;>simp[h9]
     rw[hacc,Qad,hbad,Qad];rcases Bool.eq_false_or_eq_true (s&&(nl[k].Kind==10||nl[k].Kind==11)) with hq | hq
     ·rw[if_pos hq,if_pos hq];exact⟨rfl,rfl⟩
     ·have hq' : ¬ (s&&(nl[k].Kind==10||nl[k].Kind==11))=true:=by rw[hq]; simp
      rw[if_neg hq', if_neg hq'];have hm0:=Qaq0 nl[k] s bs (by omega) (R:=Bool⊕(Nm×Bool×Bool×Bool));rw[hm0,hT _ (Qags _ _ _ _),Qad,hE,Qad];have hu:(if(nl[k].Kind==13)=true then Qhm l nl[k].Name>>=fun x19=>Qe6 l nl[k].Name x19.1 ([(Qah.mk [103,114,111,117,112] 0 false),(Qah.mk [105,116] 0 s)])>>=fun x20=>some (x20.Where,x20.Bad,x20.Tells) else some ([],false,false)) =
        some ((if(nl[k].Kind==13)=true then uS l nl[k].Name s else Qmk).Where,(if(nl[k].Kind==13)=true then uS l nl[k].Name s else Qmk).Bad,(if(nl[k].Kind==13)=true then uS l nl[k].Name s else Qmk).Tells):=by
       by_cases h13:(nl[k].Kind==13)=true
       ·rw[if_pos h13,if_pos h13,Qac3 l _ (by omega),Qad];have:=hUse h13 s;unfold itB at this;rw[this]; rfl
       ·rw[if_neg h13,if_neg h13]
      rw[hu,Qad];generalize hgT:blS (uS l) w nl[k].Then (Qp6 nl[k].Kind nl[k].Name s bs)=g;generalize hgE:blS (uS l) w nl[k].Else bs=e1;generalize hgU:(if(nl[k].Kind==13)=true then uS l nl[k].Name s else Qmk)=u;have hu2:u.Bad=true→uS l nl[k].Name s=u:=fun hb' => by
       rw[← hgU] at hb' ⊢;split
       ·rfl
       ·rename_i h13; rw[if_neg h13] at hb'; cases hb'
      have htl:(if(acc||(nl[k].Kind==9&&s))=true then some true else if g.Tells=true then some true else if e1.Tells=true then some true else some u.Tells:Option Bool)=some ((acc||(nl[k].Kind==9&&s))||(g.Tells||(e1.Tells||u.Tells))):=by
       cases (acc||(nl[k].Kind==9&&s))<;>cases g.Tells<;>cases e1.Tells<;>rfl
      simp only[htl,Qad];rcases Bool.eq_false_or_eq_true g.Bad with hg1 | hg1
      ·simp only[hg1,if_true];exact⟨hg1,by cases g; simp_all⟩
      ·simp only[hg1,Bool.false_eq_true,if_false];rcases Bool.eq_false_or_eq_true e1.Bad with he1 | he1
       ·simp only[he1,if_true];exact⟨he1,by cases e1; simp_all⟩
       ·simp only[he1,Bool.false_eq_true,if_false];rcases Bool.eq_false_or_eq_true u.Bad with hu1 | hu1
        ·simp only[hu1,if_true,hu2 hu1];exact⟨hu1,by cases u; simp_all⟩
        ·simp only[hu1,Bool.false_eq_true,if_false];have:=ih2 ((acc||(nl[k].Kind==9&&s))||(g.Tells||(e1.Tells||u.Tells)));revert this;generalize Qdh l w nl bs ((k+1:Nat):Int) ((acc||(nl[k].Kind==9&&s))||(g.Tells||(e1.Tells||u.Tells)))=o;intro this
         match o,this with
         | some (.inl t),this =>
          have h1:=this.1;simp only[h1,Bool.false_eq_true,if_false];exact⟨rfl,by rw[this.2]; simp only[Bool.or_assoc]⟩
         | some (.inr q),this =>
          have h1:=this.1;simp only[h1,if_true];exact⟨h1,this.2⟩
  have h0:=key 0 (by omega) false;rw[show((0:Nat):Int)=0 from rfl,List.drop_zero] at h0;rw[Qe6];revert h0;generalize Qdh l w nl bs 0 false=o;intro h0
  match o,h0 with
  | some (.inl t),h0 =>
   rw[Qad];have hw:=Qalg (uS l) w nl bs h0.1;rw[Qalh h0.1 hw,h0.2];rfl
  | some (.inr q),h0 =>
   rw[Qad,h0.2]
theorem rUse{l:List Qae}(ho:okTs l)(hf:fine l):∀ n s,(reaP l s).length≤n→RUse l s:=by
 intro n
 induction n with
 | zero =>
  intro s hn b;rw[Qale hf];refine Qali ho s 100 _ _ (Qq4 ho s) (by omega) (by simp[itB]) (Q29 hf s) fun u hu=>?_
  have:=Qla hf.closed hf.noring (Qpa hu);omega
 | succ n ih =>
  intro s hn b;rw[Qale hf];refine Qali ho s 100 _ _ (Qq4 ho s) (by omega) (by simp[itB]) (Q29 hf s) fun u hu=>?_
  have:=Qla hf.closed hf.noring (Qpa hu);exact ih u (by omega)
def grpB:List Qah:=[⟨[103,114,111,117,112],0,false⟩]
def Qp7(l:List Qae)(s:Nm):Qa6:=blS (uS l) s (Qk1 l s).1 grpB
theorem Qar4{l:List Qae}(ho:okTs l)(hf:fine l)(s:Nm):Qe6 l s (Qk1 l s).1 grpB=some (Qp7 l s) :=
 Qali ho s 100 _ _ (Qq4 ho s) (by omega) (by simp[grpB]) (Q29 hf s) fun u _=>rUse ho hf _ u (Nat.le_refl _)
def chkS (l:List Qae) (s:Nm):Nm×Int :=
 if(Qgg l).2 != 0 then Qgg l else if !(fndT l s).isSome then([],4) else if(Qp7 l s).Bad then((Qp7 l s).Where,205) else([],0)
def telS (l:List Qae) (s:Nm):Bool:=(chkS l s).2==0&&(Qp7 l s).Tells
theorem rChk{l:List Qae}(ho:okTs l)(s:Nm):∃ f,Qp2 l s=some (f,(chkS l s).1,(chkS l s).2)∧((chkS l s).2=0→f.Tells=(Qp7 l s).Tells):=by
 have hlen:=ho.len;rw[Qp2,Qans l ho,Qad,chkS];by_cases hc:(Qgg l).2=0
 ·have hb:((Qgg l).2 != 0)=false:=by simpa using hc
  obtain⟨hf,-⟩:=Quj hc;rw[hb,if_neg (by simp),if_neg (by simp),Qac3 l s (by omega),Qad,Q6h];rcases Bool.eq_false_or_eq_true (fndT l s).isSome with hs | hs
  ·have hr:=Qar4 ho hf s;unfold grpB at hr;rw[hs,if_neg (by simp),if_neg (by simp),hr,Qad];rcases Bool.eq_false_or_eq_true (Qp7 l s).Bad with hb | hb
   ·rw[if_pos hb,if_pos hb];exact⟨_,rfl,fun h=>by cases h⟩
   ·rw[if_neg (by simp[hb]),if_neg (by simp[hb])];exact⟨_,rfl,fun _=>rfl⟩
  ·rw[hs,if_pos (by simp),if_pos (by simp)];exact⟨_,rfl,fun h=>by cases h⟩
 ·have hb:((Qgg l).2 != 0)=true:=by simpa using hc
  rw[hb,if_pos rfl,if_pos rfl];exact⟨_,rfl,fun h=>absurd h hc⟩
theorem Qam6{l:List Qae}(ho:okTs l)(s:Nm):Qtx l s=some (chkS l s):=by
 obtain⟨f,h,-⟩:=rChk ho s;rw[Qtx,h]; rfl
theorem Qaq2{l:List Qae}(ho:okTs l)(s:Nm):Qty l s=some (telS l s):=by
 obtain⟨f,h,h2⟩:=rChk ho s;rw[Qty,h,Qad,telS];by_cases h0:(chkS l s).2=0
 ·have hb:((chkS l s).2==0)=true:=by simpa using h0
  simp only[hb,if_true,Qad,h2 h0,Bool.true_and]
 ·have hb:((chkS l s).2==0)=false:=by simpa using h0
  simp only[hb,Bool.false_eq_true,if_false,Qad,Bool.false_and]
abbrev peq(a b:Qag):Bool:=(a.name_==b.name_&&(a.it_==b.it_&&true))
theorem Qae1(a b:Qag):peq a b=true↔a=b:=by
 cases a; cases b; simp[peq]
abbrev Dn:=List (Qag×Int)
theorem Qac6{k:Qag}:∀ {m:Dn},(∀ p ∈ m,p.1≠k)→mget peq k m=none
 | [],_=>rfl
 | p::r,h=>by
  have h1:¬ peq k p.1=true:=fun e=>h p (by simp) ((Qae1 _ _).1 e).symm
  rw[mget,if_neg h1];exact Qac6 fun q hq=>h q (by simp[hq])
theorem Qagt{k:Qag}:∀ {m:Dn},(∀ p ∈ m,p.2=1)→(∃ p ∈ m,p.1=k)→mget peq k m=some 1
 | [],_,h=>by obtain⟨p,hp,-⟩:=h; cases hp
 | p::r,h1,h=>by
  by_cases e:peq k p.1=true
  ·rw[mget,if_pos e,h1 p (by simp)]
  ·rw[mget,if_neg e];refine Qagt (fun q hq=>h1 q (by simp[hq])) ?_;obtain⟨q,hq,hk⟩:=h;rcases List.mem_cons.1 hq with rfl | hq
   ·exact absurd ((Qae1 _ _).2 hk.symm) e
   ·exact⟨q,hq,hk⟩
theorem Qagu{k:Qag}{x:Int}:∀ {m:Dn},(∀ p ∈ m,p.1≠k)→mset peq k x m=m++[(k,x)]
 | [],_=>rfl
 | p::r,h=>by
  have h1:¬ peq k p.1=true:=fun e=>h p (by simp) ((Qae1 _ _).1 e).symm
  rw[mset,if_neg h1,Qagu fun q hq=>h q (by simp[hq])];rfl
def good(l:List Qae)(p:Qag)(t:Int):Prop:=(uS l p.name_ p.it_).Bad=false∧((uS l p.name_ p.it_).Tells=true→0<t)
structure WI (l:List Qae) (Q:Nm→Prop) (D:Dn) (t:Int):Prop where
 keys:(D.map (·.1)).Nodup
 names:∀ p ∈ D,p.1.name_ ∈ nms l
 ones:∀ p ∈ D,p.2=1
 done:∀ p ∈ D,Q p.1.name_∨good l p.1 t
 pos:0≤t
theorem WI.len{l:List Qae}(ho:okTs l){Q:Nm→Prop}{D:Dn}{t:Int}(h:WI l Q D t):D.length≤200:=by
 have:=List.Nodup.length_le_of_subset h.keys (l₂ := (nms l).map (fun s=>⟨s,true⟩)++(nms l).map (fun s=>⟨s,false⟩)) fun x hx=>by
  obtain⟨p,hp,rfl⟩:=List.mem_map.1 hx;have hn:=h.names p hp;rw[List.mem_append,List.mem_map,List.mem_map];cases hb:p.1.it_ with
  | true=>exact .inl ⟨_,hn,by rw[← hb]⟩
  | false=>exact .inr ⟨_,hn,by rw[← hb]⟩
 have hlen:=ho.len;simp at this;omega
structure NW (l:List Qae) (f:Qa6) (c:Nat) (D E:Dn) (t t' : Int):Prop where
 keys:((D++E).map (·.1)).Nodup
 new:∀ p ∈ E,p.1.name_ ∈ nms l∧p.2=1∧good l p.1 t'
 told:0<t' ↔ 0<t∨f.Tells=true
 pos:0≤t'
 most:t' ≤ t+c+100*(E.length:Int)
def Post(l:List Qae)(f:Qa6)(c:Nat)(w:Nm)(D:Dn)(t:Int)(r:Nm×Bool×Dn×Int):Prop :=
 (f.Bad=true→r.2.1=true∧r.1=f.Where)∧(f.Bad=false→r.2.1=false∧r.1=w∧∃ E,r.2.2.1=D++E∧NW l f c D E t r.2.2.2)
theorem NW.wi{l:List Qae}{f:Qa6}{c:Nat}{D E:Dn}{t t' : Int}{Q:Nm→Prop}(h:NW l f c D E t t')(k:WI l Q D t):WI l Q (D++E) t' :=
 ⟨h.keys,fun p hp=>(List.mem_append.1 hp).elim (k.names p) fun hp=>(h.new p hp).1,fun p hp=>(List.mem_append.1 hp).elim (k.ones p) fun hp=>(h.new p hp).2.1,
  fun p hp=>(List.mem_append.1 hp).elim (fun hp=>(k.done p hp).imp id fun g=>⟨g.1,fun q=>h.told.2 (.inl (g.2 q))⟩) fun hp =>.inr (h.new p hp).2.2,h.pos⟩
theorem NW.nil{l:List Qae}{f:Qa6}{c:Nat}{D:Dn}{t:Int}{Q:Nm→Prop}(k:WI l Q D t)(hf:f.Tells=true→0<t):NW l f c D [] t t :=
 ⟨by rw[List.append_nil]; exact k.keys,fun p hp=>(nomatch hp),⟨.inl,fun h=>h.elim id hf⟩,k.pos,by simp; omega⟩
theorem NW.trans{l:List Qae}{f g h:Qa6}{c d e:Nat}{D E F:Dn}{t t' t'' : Int}(a:NW l f c D E t t')(b:NW l g d (D++E) F t' t'')(hfg:h.Tells=(f.Tells||g.Tells))(hc:c+d≤e):NW l h e D (E++F) t t'' := by
 refine⟨by rw[← List.append_assoc]; exact b.keys,fun p hp=>?_,?_,b.pos,?_⟩
 ·rcases List.mem_append.1 hp with hp | hp
  ·obtain⟨h1,h2,h3⟩:=a.new p hp;exact⟨h1,h2,h3.1,fun q=>b.told.2 (.inl (h3.2 q))⟩
  ·exact b.new p hp
 ·rw[b.told,a.told,hfg,Bool.or_eq_true,or_assoc]
 ·have:=a.most;have:=b.most;rw[List.length_append];omega
def BU(t:Int)(D:Dn)(c:Nat):Prop:=t+c+100*(400-(D.length:Int))≤1000000
theorem BU.next{l:List Qae}{f:Qa6}{c d e:Nat}{D E:Dn}{t t' : Int}(h:BU t D e)(a:NW l f c D E t t')(hc:c+d≤e):BU t' (D++E) d:=by
 have:=a.most;unfold BU at h ⊢;rw[List.length_append];omega
theorem Qaq3(l:List Qae)(w0:Nm)(nl:List Qab)(bs:List Qah)(w:Nm)(D:Dn)(t:Int)(k:Nat):∃ o,Qax w0 nl bs l k w true D t=some o∧(o = .inl (w,true,D,t)∨o = .inr (w,true,D,t)):=by
 rw[Qax];by_cases h:k<nl.length
 ·refine⟨_,?_,.inr rfl⟩;simp only[ltI,h,decide_true,if_true,Qbc,getE h,Qad]
 ·refine⟨_,?_,.inl rfl⟩;simp only[ltI,h,decide_false,Bool.false_eq_true,if_false]
theorem wBad(l:List Qae)(w0:Nm)(nl:List Qab)(bs:List Qah)(w:Nm)(D:Dn)(t:Int):Qa0 w0 nl bs l w true D t=some (w,true,D,t):=by
 obtain⟨o,h1,h2⟩:=Qaq3 l w0 nl bs w D t 0;rw[show((0:Nat):Int)=0 from rfl] at h1;rw[Qa0,h1,Qad];rcases h2 with rfl | rfl<;>rfl
def WUse(l:List Qae)(u:Nm):Prop:=∀ (Q:Nm→Prop) (b:Bool) (w:Nm) (D:Dn) (t:Int),(∀ x,Q x→x ∉ froP l [u])→WI l Q D t→BU t D 0→∃ r,Qcd ⟨u,b⟩ l w false D t=some r∧Post l (uS l u b) 0 w D t r
theorem Qaq4(x:Qab)(s:Bool)(l:List Qae)(bs:List Qah)(hb:bs.length≤1000)(w:Nm)(D:Dn)(t:Int)(ht : -1≤t)(ht2:t≤2000000) :
  (if(x.Kind==9) then(if s then Qe8 t>>=fun x12=>some (.inl (bs,x12)) else some (.inl (bs,t)))
   else(if(x.Kind==10) then some (x.Kind==10) else some (x.Kind==11):Option Bool)>>=fun o13=>if o13 then(if s then some (.inr (.inr ())) else if(x.Kind==11) then appL 32 bs [(Qah.mk x.Name 0 false)]>>=fun x14=>some (.inl (x14,t)) else some (.inl (bs,t)))
    else if(x.Kind==12) then appL 32 bs [(Qah.mk x.Name 0 s)]>>=fun x15=>some (.inl (x15,t)) else if(x.Kind==13) then Qcd (Qag.mk x.Name s) l w false D t>>=fun x16=>some (.inr (.inl (x16.1,x16.2.1,x16.2.2.1,x16.2.2.2))) else some (.inl (bs,t)):Option (((List Qah)×Int)⊕(Nm×Bool×Dn×Int)⊕Unit)) =
  if(x.Kind==13)=true then Qcd (Qag.mk x.Name s) l w false D t>>=fun x16=>some (.inr (.inl (x16.1,x16.2.1,x16.2.2.1,x16.2.2.2))) else
  if(s&&(x.Kind==10||x.Kind==11))=true then some (.inr (.inr ())) else some (.inl (Qp6 x.Kind x.Name s bs,if(x.Kind==9&&s)=true then t+1 else t)):=by
 have ha:∀ b,appL 32 bs [(Qah.mk x.Name 0 b)]=some (bs++[⟨x.Name,0,b⟩]):=fun b=>Qhw (by simp; omega) (by simp; omega)
 have hT:Qe8 t=some (t+1):=by rw[Qe8,Qhh (by omega) (by omega)]
 unfold Qp6;rw[hT];simp only[ha,Qad];by_cases h9:x.Kind=9
 ·have e13:(x.Kind==13)=false:=by rw[h9]; rfl
  have e10:(x.Kind==10)=false:=by rw[h9]; rfl
  have e11:(x.Kind==11)=false:=by rw[h9]; rfl
  have e12:(x.Kind==12)=false:=by rw[h9]; rfl
  have e9:(x.Kind==9)=true:=by rw[h9]; rfl
  simp only[e13,e10,e11,e12,e9,if_true,Bool.or_self,Bool.and_false,Bool.false_eq_true,if_false,Bool.true_and];cases s<;>rfl
 ·have e9:(x.Kind==9)=false:=by simpa using h9
  simp only[e9,Bool.false_eq_true,if_false,Bool.false_and];by_cases h10:x.Kind=10
  ·have e13:(x.Kind==13)=false:=by rw[h10]; rfl
   have e10:(x.Kind==10)=true:=by rw[h10]; rfl
   have e11:(x.Kind==11)=false:=by rw[h10]; rfl
   have e12:(x.Kind==12)=false:=by rw[h10]; rfl
   simp only[e13,e10,e11,e12,if_true,Bool.true_or,Bool.and_true,Bool.false_eq_true,if_false,Qad]
  ·have e10:(x.Kind==10)=false:=by simpa using h10
   simp only[e10,Bool.false_eq_true,if_false,Qad,Bool.false_or];by_cases h11:x.Kind=11
   ·have e13:(x.Kind==13)=false:=by rw[h11]; rfl
    have e11:(x.Kind==11)=true:=by rw[h11]; rfl
    simp only[e13,e11,if_true,Bool.and_true,Bool.false_eq_true,if_false]
   ·have e11:(x.Kind==11)=false:=by simpa using h11
    simp only[e11,Bool.false_eq_true,if_false,Bool.and_false];by_cases h12:x.Kind=12
    ·have e13:(x.Kind==13)=false:=by rw[h12]; rfl
     have e12:(x.Kind==12)=true:=by rw[h12]; rfl
     simp only[e13,e12,if_true,Bool.false_eq_true,if_false]
    ·have e12:(x.Kind==12)=false:=by simpa using h12
     simp only[e12,Bool.false_eq_true,if_false]
theorem wBlk{l:List Qae}(ho:okTs l)(w0:Nm)(Q:Nm→Prop):∀ n (nl:List Qab) (bs:List Qah),nns nl≤n→n≤100→bs.length+n≤900→goL nl→(∀ u ∈ usL nl,WUse l u∧∀ x,Q x→x ∉ froP l [u]) →
  ∀ (w:Nm) (D:Dn) (t:Int),WI l Q D t→BU t D (nns nl)→∃ r,Qa0 w0 nl bs l w false D t=some r∧Post l (blS (uS l) w0 nl bs) (nns nl) w D t r:=by
 intro n
 induction n with
 | zero =>
  intro nl bs h _ _ _ _ w D t hW hB;cases nl with
  | nil =>
   refine⟨(w,false,D,t),?_,fun h=>(by rw[blS] at h; cases h),fun _=>⟨rfl,rfl,[],(List.append_nil _).symm,NW.nil hW fun h=>(by rw[blS] at h; cases h)⟩⟩;rw[Qa0,Qax]; rfl
  | cons x r=>rw[nns] at h; have:=Qj7 x; omega
 | succ n ih =>
  intro nl bs h hn hb hg hU;have hll:=Qev nl;have key:∀ k,k≤nl.length→∀ (w:Nm) (D:Dn) (t:Int),WI l Q D t→BU t D (nns (nl.drop k))→∃ o,Qax w0 nl bs l k w false D t=some o∧∃ r,(o = .inl r∨o = .inr r)∧Post l (blS (uS l) w0 (nl.drop k) bs) (nns (nl.drop k)) w D t r:=by
   refine upto ?_ fun k hk ih2=>?_
   ·intro w D t hW _;refine⟨_,?_,(w,false,D,t),.inl rfl,fun h=>?_,fun _=>⟨rfl,rfl,[],(List.append_nil _).symm,NW.nil hW fun h=>?_⟩⟩
    ·have:decide (((nl.length:Nat):Int)<(nl.length:Int))=false:=decide_eq_false (by omega);rw[Qax,this,if_neg (by simp)]
    ·rw[List.drop_length,blS] at h; cases h
    ·rw[List.drop_length,blS] at h; cases h
   ·intro w D t hW hB;have hDl:=hW.len ho;have hp0:=hW.pos;have hm:=List.getElem_mem hk;have hnn:=Qe9 hm;have e:=Qi0 nl[k];have hgk:=(Qalf _).1 (Qae0 hm hg);have hnd:nns (nl.drop k)=nn nl[k]+nns (nl.drop (k+1)):=by rw[Qct hk,nns]
    rw[hnd] at hB ⊢;have htb:t≤1000000:=by unfold BU at hB; omega
    rw[Qax,ltI,decide_eq_true hk,if_pos rfl,Qbc,getE hk,Qad,if_neg (by simp),Qct hk,blS,Qba (show k<9223372036854775807 by omega),Qac5];have bad:∀ (w' : Nm) (D' : Dn) (t' : Int) (f:Qa6),f.Bad=true→w' = f.Where→∀ g:Qa6,∃ o,Qax w0 nl bs l ((k+1:Nat):Int) w' true D' t' = some o∧∃ r,(o = .inl r∨o = .inr r)∧Post l f (nn nl[k]+nns (nl.drop (k+1))) w D t r:=fun w' D' t' f hf hw g=>by
     obtain⟨o,h1,h2⟩:=Qaq3 l w0 nl bs w' D' t' (k+1);exact⟨o,h1,_,h2,fun _=>⟨rfl,hw⟩,fun h=>by rw[hf] at h; cases h⟩
    have go:∀ (f:Qa6) (c:Nat) (E:Dn) (t' : Int),f.Bad=false→NW l f c D E t t' → c≤nn nl[k]→∃ o,Qax w0 nl bs l ((k+1:Nat):Int) w false (D++E) t' = some o∧∃ r,(o = .inl r∨o = .inr r)∧Post l (if f.Bad=true then f else if(blS (uS l) w0 (nl.drop (k+1)) bs).Bad=true then blS (uS l) w0 (nl.drop (k+1)) bs else⟨[],false,f.Tells||(blS (uS l) w0 (nl.drop (k+1)) bs).Tells⟩) (nn nl[k]+nns (nl.drop (k+1))) w D t r:=fun f c E t' hf hN hc=>by
     obtain⟨o,h1,r,h2,h3⟩:=ih2 w (D++E) t' (hN.wi hW) (hB.next hN (by omega));refine⟨o,h1,r,h2,?_⟩;rw[if_neg (by simp[hf])];rcases Bool.eq_false_or_eq_true (blS (uS l) w0 (nl.drop (k+1)) bs).Bad with hb | hb
     ·rw[if_pos hb];exact⟨fun _=>h3.1 hb,fun q=>by rw[hb] at q; cases q⟩
     ·rw[if_neg (by simp[hb])];obtain⟨g1,g2,F,g3,g4⟩:=h3.2 hb;exact⟨fun q=>(by cases q),fun _=>⟨g1,g2,E++F,by rw[g3,List.append_assoc],hN.trans g4 rfl (by omega)⟩⟩
    by_cases h8:(nl[k].Kind==8)=true
    ·rw[if_pos h8,if_pos h8];have:=go Qmk 0 [] t rfl (NW.nil hW fun h=>(by cases h)) (by omega);rw[List.append_nil] at this;exact this
    ·rw[if_neg h8,if_neg h8];have hl1:=hgk.1 (by simpa using h8);obtain⟨y,hy⟩:∃ y,nl[k].L=[y]:=List.length_eq_one_iff.1 hl1;have hny:nn y≤100:=by
      have:nn y≤nns nl[k].L:=Qe9 (by rw[hy]; simp);omega
     have hi0:idx nl[k].L 0=some y:=by rw[hy]; rfl
     have hhd:hdS nl[k].L bs=secN y bs:=by rw[hy]; rfl
     rw[hi0,Qad,cSec bs (by omega) 100 y (by omega) hny,Qad,hhd,Qbr,Qhw (by simp; omega) (by simp; omega),Qad,List.nil_append];generalize hs:secN y bs=s;have hst:=Qaq4 nl[k] s l bs (by omega) w D t (by omega) (by omega);rw[hst];by_cases h13:(nl[k].Kind==13)=true
     ·have hK:nl[k].Kind=13:=by simpa using h13
      obtain⟨hT0,hE0⟩:=hgk.2.1 (.inl hK);obtain⟨hWU,hQ⟩:=hU nl[k].Name (Qpb hm _ (by rw[Qiz,if_pos h13]; simp));obtain⟨r,u1,u2⟩:=hWU Q s w D t hQ hW (by unfold BU at hB ⊢; omega);have hq:¬ (s&&(nl[k].Kind==10||nl[k].Kind==11))=true:=by rw[hK]; simp
      have h9:(nl[k].Kind==9&&s)=false:=by rw[hK]; rfl
      rw[if_pos h13,u1,Qad,Qad,if_neg hq,hT0,hE0,h9];simp only[blS,Bool.false_eq_true,if_false,Bool.false_or,h13,if_true];rcases Bool.eq_false_or_eq_true (uS l nl[k].Name s).Bad with hb | hb
      ·obtain⟨b1,b2⟩:=u2.1 hb;simp only[hb,if_true];rw[b1];exact bad r.1 r.2.2.1 r.2.2.2 _ hb b2 Qmk
      ·obtain⟨b1,b2,E,b3,b4⟩:=u2.2 hb;simp only[hb,Bool.false_eq_true,if_false];rw[b1,b2,b3];have:=go ⟨[],false,(uS l nl[k].Name s).Tells⟩ 0 E r.2.2.2 rfl ⟨b4.keys,b4.new,b4.told,b4.pos,b4.most⟩ (by omega);simpa using this
     ·rw[if_neg h13];rcases Bool.eq_false_or_eq_true (s&&(nl[k].Kind==10||nl[k].Kind==11)) with hq | hq
      ·rw[if_pos hq,Qad,if_pos hq];refine⟨_,rfl,(w0,true,D,t),.inr rfl,fun _=>⟨rfl,rfl⟩,fun q=>?_⟩;simp at q
      ·have hq' : ¬ (s&&(nl[k].Kind==10||nl[k].Kind==11))=true:=by rw[hq]; simp
       rw[if_neg hq', Qad,if_neg hq'];simp only[h13,Bool.false_eq_true,if_false,Bool.or_false];have hN0:NW l ⟨[],false,nl[k].Kind==9&&s⟩ 1 D [] t (if(nl[k].Kind==9&&s)=true then t+1 else t):=by
        rcases Bool.eq_false_or_eq_true (nl[k].Kind==9&&s) with h9 | h9
        ·rw[if_pos h9];exact⟨by rw[List.append_nil]; exact hW.keys,fun p hp=>(nomatch hp),⟨fun _ =>.inr h9,fun _=>by omega⟩,by omega,by simp⟩
        ·rw[if_neg (by simp[h9])];exact NW.nil hW fun q=>by rw[show(Qa6.mk [] false (nl[k].Kind==9&&s)).Tells=(nl[k].Kind==9&&s) from rfl,h9] at q; cases q
       have hW0:=hN0.wi hW;have hB0:=hB.next (d:=nns nl[k].Then+nns nl[k].Else+nns (nl.drop (k+1))) hN0 (by omega)
       generalize (if(nl[k].Kind==9&&s)=true then t+1 else t)=t1 at hN0 hW0 hB0;rw[List.append_nil] at hW0 hB0;obtain⟨r1,p1,p2⟩:=ih nl[k].Then (Qp6 nl[k].Kind nl[k].Name s bs) (by omega) (by omega) (by have:=Qags nl[k].Kind nl[k].Name s bs; omega) hgk.2.2.1 (fun u hu=>hU u (Qpb hm u (by rw[Qiz]; simp[hu]))) w D t1 hW0 (by unfold BU at hB0 ⊢; omega);rw[p1,Qad];have hTl:=Qev nl[k].Then;have hEl:=Qev nl[k].Else;rcases Bool.eq_false_or_eq_true (blS (uS l) w0 nl[k].Then (Qp6 nl[k].Kind nl[k].Name s bs)).Bad with hb1 | hb1
       ·obtain⟨b1,b2⟩:=p2.1 hb1;rw[if_pos hb1,b1,wBad l w0 nl[k].Else bs,Qad,if_pos hb1];exact bad _ _ _ _ hb1 b2 Qmk
       ·have hb1' : ¬ (blS (uS l) w0 nl[k].Then (Qp6 nl[k].Kind nl[k].Name s bs)).Bad=true:=by rw[hb1]; simp
        obtain⟨b1,b2,E1,b3,b4⟩:=p2.2 hb1;rw[if_neg hb1', b1,b2,b3];have hW1:=b4.wi hW0;have hB1:=hB0.next (d:=nns nl[k].Else+nns (nl.drop (k+1))) b4 (by omega)
        obtain⟨r2,q1,q2⟩:=ih nl[k].Else bs (by omega) (by omega) (by omega) hgk.2.2.2 (fun u hu=>hU u (Qpb hm u (by rw[Qiz]; simp[hu]))) w (D++E1) r1.2.2.2 hW1 (by unfold BU at hB1 ⊢; omega);rw[q1,Qad];rcases Bool.eq_false_or_eq_true (blS (uS l) w0 nl[k].Else bs).Bad with hb2 | hb2
        ·obtain⟨c1,c2⟩:=q2.1 hb2;rw[if_pos hb2,c1,if_pos hb2];exact bad _ _ _ _ hb2 c2 Qmk
        ·have hb2' : ¬ (blS (uS l) w0 nl[k].Else bs).Bad=true:=by rw[hb2]; simp
         obtain⟨c1,c2,E2,c3,c4⟩:=q2.2 hb2;rw[if_neg hb2', c1,c2,c3,List.append_assoc];have hN1:=(hN0.trans (by rw[List.append_nil]; exact b4) (h:=⟨[],false,(nl[k].Kind==9&&s)||(blS (uS l) w0 nl[k].Then (Qp6 nl[k].Kind nl[k].Name s bs)).Tells⟩) (e:=1+nns nl[k].Then) rfl (by omega));rw[List.nil_append] at hN1;have hN2:=hN1.trans c4 (h:=⟨[],false,(nl[k].Kind==9&&s)||((blS (uS l) w0 nl[k].Then (Qp6 nl[k].Kind nl[k].Name s bs)).Tells||(blS (uS l) w0 nl[k].Else bs).Tells)⟩) (e:=nn nl[k]) (by simp[Bool.or_assoc]) (by omega);have:=go _ _ _ _ rfl hN2 (Nat.le_refl _);simpa using this
  intro w D t hW hB;obtain⟨o,h1,r,h2,h3⟩:=key 0 (by omega) w D t hW hB;rw[show((0:Nat):Int)=0 from rfl] at h1;rw[List.drop_zero] at h3;refine⟨r,?_,h3⟩;rw[Qa0,h1,Qad];rcases h2 with rfl | rfl<;>rfl
theorem Qape{l:List Qae}(hf:fine l){s u:Nm}(hu:u ∈ suc l s)(x:Nm)(hx:x ∈ froP l [u]):x ∈ reaP l s:=by
 refine Qmt (C:=fun x=>x ∈ reaP l s) (fun t ht v hv=>Qin hf.closed (Qt0 l s) (hf.closed s) t ht v hv) (fun y hy=>?_) x hx;rw[List.mem_singleton.1 hy];exact Qq3 hu
theorem Qar5{l:List Qae}(ho:okTs l)(hf:fine l):∀ n s,s ∈ nms l→(reaP l s).length≤n→WUse l s:=by
 have hlen:=ho.len;have step:∀ s,s ∈ nms l→(∀ u ∈ suc l s,WUse l u)→WUse l s:=fun s hs hUse Q b w D t hQ hW hB=>by
  have hDl:=hW.len ho;have hss:s ∈ froP l [s]:=Qq3 (List.mem_singleton.2 rfl);rw[Qcd];by_cases hd:∃ p ∈ D,p.1=⟨s,b⟩
  ·have hg:=Qagt hW.ones hd;rw[show(fun(a b:Qag)=>(a.name_==b.name_&&(a.it_==b.it_&&true)))=peq from rfl,hg];obtain⟨p,hp,hpe⟩:=hd;have hgood:good l ⟨s,b⟩ t:=by
    rcases hW.done p hp with k | k
    ·rw[hpe] at k; exact absurd hss (hQ s k)
    ·rw[hpe] at k; exact k
   exact⟨_,rfl,fun h=>(by have:=hgood.1; simp only at this; rw[h] at this; cases this),fun _=>⟨rfl,rfl,[],(List.append_nil _).symm,NW.nil hW hgood.2⟩⟩
  ·have hno:∀ p ∈ D,p.1≠⟨s,b⟩:=fun p hp e=>hd ⟨p,hp,e⟩
   rw[show(fun(a b:Qag)=>(a.name_==b.name_&&(a.it_==b.it_&&true)))=peq from rfl,Qac6 hno,Qagu hno,Qam4 l s (by omega),Qad];have hW1:WI l (fun x=>Q x∨x=s) (D++[((⟨s,b⟩:Qag),(1:Int))]) t:=⟨by
     rw[List.map_append];refine List.nodup_append.2 ⟨hW.keys,by simp,fun x hx y hy e=>?_⟩;obtain⟨p,hp,rfl⟩:=List.mem_map.1 hx;simp only[List.map_cons,List.map_nil,List.mem_singleton] at hy;exact hno p hp (e.trans hy),fun p hp=>by
     rcases List.mem_append.1 hp with hp | hp
     ·exact hW.names p hp
     ·rw[List.mem_singleton.1 hp]; exact hs,fun p hp=>by
     rcases List.mem_append.1 hp with hp | hp
     ·exact hW.ones p hp
     ·rw[List.mem_singleton.1 hp],fun p hp=>by
     rcases List.mem_append.1 hp with hp | hp
     ·exact(hW.done p hp).imp .inl id
     ·rw[List.mem_singleton.1 hp]; exact .inl (.inr rfl),hW.pos⟩
   have hnf:=Qq4 ho s;obtain⟨r,h1,h2⟩:=wBlk ho s (fun x=>Q x∨x=s) 100 (Qk1 l s).1 (itB b) hnf (by omega) (by simp[itB]) (Q29 hf s) (fun u hu=>by
    have hu:=Qpa hu;refine⟨hUse u hu,fun x hx hin=>?_⟩;have hin2:=Qape hf hu x hin;rcases hx with hx | rfl
    ·refine hQ x hx ?_;rw[Qam3 hf.closed hs];exact(Qk9 _ _ _).2 (.inr hin2)
    ·exact hf.noring x hs hin2) w _ t hW1 (by unfold BU at hB ⊢; rw[List.length_append,List.length_singleton]; omega)
   unfold itB at h1;refine⟨r,?_,?_⟩
   ·simp only[Option.getD_none];rw[if_neg (by decide),h1];rfl
   ·rw[← Qale hf] at h2;refine⟨h2.1,fun hb=>?_⟩;obtain⟨a1,a2,E,a3,a4⟩:=h2.2 hb;refine⟨a1,a2,((⟨s,b⟩:Qag),(1:Int))::E,by rw[a3,List.append_assoc]; rfl,⟨by have:=a4.keys; rwa [List.append_assoc] at this,fun p hp=>?_,a4.told,a4.pos,?_⟩⟩
    ·rcases List.mem_cons.1 hp with rfl | hp
     ·exact⟨hs,rfl,hb,fun q=>a4.told.2 (.inr q)⟩
     ·exact a4.new p hp
    ·have:=a4.most;rw[List.length_cons];omega
 intro n
 induction n with
 | zero =>
  intro s hs hn;refine step s hs fun u hu=>?_
  have:=Qla hf.closed hf.noring hu;omega
 | succ n ih =>
  intro s hs hn;refine step s hs fun u hu=>?_
  have:=Qla hf.closed hf.noring hu;exact ih u (hf.closed s u hu) (by omega)
theorem Qaq5{l:List Qae}(ho:okTs l)(hf:fine l)(s:Nm):∃ r,Qa0 s (Qk1 l s).1 grpB l [] false [] 0=some r∧((Qp7 l s).Bad=true→r.2.1=true∧r.1=(Qp7 l s).Where)∧((Qp7 l s).Bad=false→r.2.1=false∧(0<r.2.2.2↔(Qp7 l s).Tells=true)):=by
 have hnf:=Qq4 ho s;obtain⟨r,h1,h2⟩:=wBlk ho s (fun _=>False) 100 (Qk1 l s).1 grpB hnf (by omega) (by simp[grpB]) (Q29 hf s) (fun u hu=>⟨Qar5 ho hf _ u (hf.closed s u (Qpa hu)) (Nat.le_refl _),fun x hx=>hx.elim⟩) [] [] 0
  ⟨List.nodup_nil,fun p hp=>(nomatch hp),fun p hp=>(nomatch hp),fun p hp=>(nomatch hp),by omega⟩ (by unfold BU; simp; omega)
 refine⟨r,h1,h2.1,fun hb=>?_⟩;obtain⟨a1,-,E,-,a4⟩:=h2.2 hb;exact⟨a1,by rw[a4.told]; simp[Qp7]⟩
def cut3(r:Nm×Bool×Dn×Int):Nm×Bool×Dn:=(r.1,r.2.1,r.2.2.1)
def Qaq6:(Nm×Bool×Dn×Int)⊕(Nm×Bool×Dn×Int)→(Nm×Bool×Dn)⊕(Nm×Bool×Dn)
 | .inl r =>.inl (cut3 r)
 | .inr r =>.inr (cut3 r)
def cut8:((List Qah)×Int)⊕(Nm×Bool×Dn×Int)⊕Unit→(List Qah)⊕(Nm×Bool×Dn)⊕Unit
 | .inl y =>.inl y.1
 | .inr (.inl y) =>.inr (.inl (cut3 y))
 | .inr (.inr y) =>.inr (.inr y)
theorem w1of(l:List Qae) :
  (∀ (p1:Nm) (p2:List Qab) (p3:List Qah) (w:Nm) (b:Bool) (d:Dn) (t:Int) (r:Nm×Bool×Dn×Int),Qa0 p1 p2 p3 l w b d t=some r→Qbf p1 p2 p3 l w b d=some (cut3 r)) ∧
  (∀ (p1:Nm) (p2:List Qab) (p3:List Qah) (v:Int) (w:Nm) (b:Bool) (d:Dn) (t:Int) (r:(Nm×Bool×Dn×Int)⊕(Nm×Bool×Dn×Int)),Qax p1 p2 p3 l v w b d t=some r→Qbg p1 p2 p3 l v w b d=some (Qaq6 r)) ∧
  (∀ (p:Qag) (w:Nm) (b:Bool) (d:Dn) (t:Int) (r:Nm×Bool×Dn×Int),Qcd p l w b d t=some r→Qem p l w b d=some (cut3 r)):=by
 refine Qa0.mutual_partial_correctness l _ _ _ ?_ ?_ ?_
 ·intro L1 hL1 p1 p2 p3 w b d t r h;obtain⟨o,h1,h2⟩:=Option.bind_eq_some_iff.1 h;rw[Qbf,hL1 _ _ _ _ _ _ _ _ _ h1,Qad];cases o with
  | inl q=>cases h2; rfl
  | inr q=>cases h2; rfl
 ·intro B L1 U hB hL1 hU p1 p2 p3 v w b d t r h;rw[Qbg];split at h
  ·rename_i hv;rw[if_pos hv];obtain⟨x4,h1,h⟩:=Option.bind_eq_some_iff.1 h;rw[h1,Qad];split at h
   ·rename_i hb;cases h;rw[if_pos hb]; rfl
   ·rename_i hb;rw[if_neg hb];split at h
    ·rename_i h8;rw[if_pos h8];exact hL1 _ _ _ _ _ _ _ _ _ h
    ·rename_i h8;rw[if_neg h8];obtain⟨x5,h2,h⟩:=Option.bind_eq_some_iff.1 h;obtain⟨x6,h3,h⟩:=Option.bind_eq_some_iff.1 h;obtain⟨x7,h4,h⟩:=Option.bind_eq_some_iff.1 h;obtain⟨o8,h5,h⟩:=Option.bind_eq_some_iff.1 h;rw[h2,Qad,h3,Qad,h4,Qad];have main:∀ (o8:(List Qah×Int)⊕(Nm×Bool×Dn×Int)⊕Unit),
       (match o8 with
       | .inl y9=>B p1 x4.Then y9.1 w b d y9.2>>=fun x17=>B p1 x4.Else p3 x17.1 x17.2.1 x17.2.2.1 x17.2.2.2>>=fun x18=>L1 p1 p2 p3 (wr (v+1)) x18.1 x18.2.1 x18.2.2.1 x18.2.2.2
       | .inr (.inl y10)=>L1 p1 p2 p3 (wr (v+1)) y10.1 y10.2.1 y10.2.2.1 y10.2.2.2
       | .inr (.inr y11)=>some (.inr (p1,true,d,t)))=some r →
       (match cut8 o8 with
       | .inl y9=>Qbf p1 x4.Then y9 l w b d>>=fun x17=>Qbf p1 x4.Else p3 l x17.1 x17.2.1 x17.2.2>>=fun x18=>Qbg p1 p2 p3 l (wr (v+1)) x18.1 x18.2.1 x18.2.2
       | .inr (.inl y10)=>Qbg p1 p2 p3 l (wr (v+1)) y10.1 y10.2.1 y10.2.2
       | .inr (.inr y11)=>some (.inr (p1,true,d)))=some (Qaq6 r):=fun o8 h=>by
      match o8,h with
      | .inl y,h =>
       obtain⟨r1,k1,h⟩:=Option.bind_eq_some_iff.1 h;obtain⟨r2,k2,h⟩:=Option.bind_eq_some_iff.1 h;simp only[cut8,hB _ _ _ _ _ _ _ _ k1,Qad,cut3];rw[hB _ _ _ _ _ _ _ _ k2,Qad];exact hL1 _ _ _ _ _ _ _ _ _ h
      | .inr (.inl y),h=>exact hL1 _ _ _ _ _ _ _ _ _ h
      | .inr (.inr y),h=>cases h; rfl
     have step:(if(x4.Kind==9) then(if x6 then Qjq>>=fun x12=>some (.inl x7) else some (.inl x7))
       else(if(x4.Kind==10) then some (x4.Kind==10) else some (x4.Kind==11):Option Bool)>>=fun o13=>if o13 then(if x6 then some (.inr (.inr ())) else if(x4.Kind==11) then appL 32 x7 [(Qah.mk x4.Name 0 false)]>>=fun x14=>some (.inl x14) else some (.inl x7))
        else if(x4.Kind==12) then appL 32 x7 [(Qah.mk x4.Name 0 x6)]>>=fun x15=>some (.inl x15) else if(x4.Kind==13) then Qem (Qag.mk x4.Name x6) l w b d>>=fun x16=>some (.inr (.inl (x16.1,x16.2.1,x16.2.2))) else some (.inl x7):Option ((List Qah)⊕(Nm×Bool×Dn)⊕Unit)) =
       some (cut8 o8):=by
      split at h5
      ·rename_i h9;rw[if_pos h9];split at h5
       ·rename_i hs;rw[if_pos hs];obtain⟨x12,-,h5⟩:=Option.bind_eq_some_iff.1 h5;cases h5; rfl
       ·rename_i hs;rw[if_neg hs];cases h5; rfl
      ·rename_i h9;rw[if_neg h9];obtain⟨o13,k1,h5⟩:=Option.bind_eq_some_iff.1 h5;rw[k1,Qad];split at h5
       ·rename_i h13;rw[if_pos h13];split at h5
        ·rename_i hs;rw[if_pos hs]; cases h5; rfl
        ·rename_i hs;rw[if_neg hs];split at h5
         ·rename_i h11;rw[if_pos h11];obtain⟨x14,k2,h5⟩:=Option.bind_eq_some_iff.1 h5;rw[k2]; cases h5; rfl
         ·rename_i h11;rw[if_neg h11]; cases h5; rfl
       ·rename_i h13;rw[if_neg h13];split at h5
        ·rename_i h12;rw[if_pos h12];obtain⟨x14,k2,h5⟩:=Option.bind_eq_some_iff.1 h5;rw[k2]; cases h5; rfl
        ·rename_i h12;rw[if_neg h12];split at h5
         ·rename_i hu;rw[if_pos hu];obtain⟨x16,k2,h5⟩:=Option.bind_eq_some_iff.1 h5;rw[hU _ _ _ _ _ _ k2]; cases h5; rfl
         ·rename_i hu;rw[if_neg hu]; cases h5; rfl
     rw[step,Qad];exact main o8 h
  ·rename_i hv;rw[if_neg hv];cases h; rfl
 ·intro B hB p w b d t r h;rw[Qem];split at h
  ·rename_i hd;rw[if_pos hd]; cases h; rfl
  ·rename_i hd;rw[if_neg hd];obtain⟨x1,k1,h⟩:=Option.bind_eq_some_iff.1 h;obtain⟨x2,k2,h⟩:=Option.bind_eq_some_iff.1 h;rw[k1,Qad,hB _ _ _ _ _ _ _ _ k2];cases h; rfl
theorem Q0x{l:List Qae}(ho:okTs l)(s:Nm):Qen l s=some (chkS l s):=by
 have hlen:=ho.len;rw[Qen,Qcq,Qanr l ho,Qad,chkS];by_cases hc:(Qgg l).2=0
 ·have hb:((Qgg l).2 != 0)=false:=by simpa using hc
  obtain⟨hf,-⟩:=Quj hc;rw[hb,if_neg (by simp),if_neg (by simp),Qam4 l s (by omega),Qad,Q6h];rcases Bool.eq_false_or_eq_true (fndT l s).isSome with hs | hs
  ·obtain⟨r,h1,h2,h3⟩:=Qaq5 ho hf s;have h1:=(w1of l).1 _ _ _ _ _ _ _ _ h1;unfold grpB at h1;rw[hs,if_neg (by simp),if_neg (by simp),h1,Qad];rcases Bool.eq_false_or_eq_true (Qp7 l s).Bad with hb | hb
   ·obtain⟨a1,a2⟩:=h2 hb;simp only[cut3,a1,if_true,hb,Qad,a2]
   ·obtain⟨a1,-⟩:=h3 hb;simp only[cut3,a1,Bool.false_eq_true,if_false,hb,Qad]
  ·rw[hs,if_pos (by simp),if_pos (by simp)];rfl
 ·have hb:((Qgg l).2 != 0)=true:=by simpa using hc
  rw[hb,if_pos rfl,if_pos rfl];rfl
theorem Qalj{l:List Qae}(ho:okTs l)(s:Nm):Qfy l s=some (telS l s):=by
 have hlen:=ho.len;rw[Qfy,Qcr,Qanr l ho,Qad,telS,chkS];by_cases hc:(Qgg l).2=0
 ·have hb:((Qgg l).2 != 0)=false:=by simpa using hc
  obtain⟨hf,-⟩:=Quj hc;rw[hb,if_neg (by simp),if_neg (by simp),Qam4 l s (by omega),Qad,Q6h];rcases Bool.eq_false_or_eq_true (fndT l s).isSome with hs | hs
  ·obtain⟨r,h1,h2,h3⟩:=Qaq5 ho hf s;unfold grpB at h1;rw[hs,if_neg (by simp),if_neg (by simp),h1,Qad];rcases Bool.eq_false_or_eq_true (Qp7 l s).Bad with hb | hb
   ·obtain⟨a1,-⟩:=h2 hb;simp only[a1,if_true,hb,Qad];rfl
   ·obtain⟨a1,a2⟩:=h3 hb;simp only[a1,Bool.false_eq_true,if_false,hb,Qad];rcases Bool.eq_false_or_eq_true (Qp7 l s).Tells with ht | ht
    ·simp only[ht,decide_eq_true (show r.2.2.2>0 from a2.2 ht)]; rfl
    ·simp only[ht,decide_eq_false (show ¬ r.2.2.2>0 from fun h=>by rw[a2.1 h] at ht; cases ht)]; rfl
  ·rw[hs,if_pos (by simp),if_pos (by simp)];rfl
 ·have hb:((Qgg l).2 != 0)=true:=by simpa using hc
  rw[hb,if_pos rfl,if_pos rfl,Qad];have h0:((Qgg l).2==0)=false:=by simpa using hc
  simp only[h0];rfl
mutual
def Qam7:Qab→Bool
 | ⟨k,_,_,_,a,t,e⟩ => !(k==7)&&(Qwk a&&(Qwk t&&Qwk e))
def Qwk:List Qab→Bool
 | []=>true
 | x::r=>Qam7 x&&Qwk r
end
theorem Qagv(x:Qab):Qam7 x=(!(x.Kind==7)&&(Qwk x.L&&(Qwk x.Then&&Qwk x.Else))):=by cases x; rw[Qam7]
def noS(bs:List Qah):Prop:=∀ b ∈ bs,b.Secret=false
theorem Qaq7{bs:List Qah}(h:noS bs)(s:Nm):bndP bs s=false:=by
 unfold bndP;cases hf:bs.reverse.find? (·.Name==s) with
 | none=>rfl
 | some b=>exact h b (List.mem_reverse.1 (List.mem_of_find?_eq_some hf))
theorem Qant{bs:List Qah}(h:noS bs):∀ n (x:Qab),nn x≤n→Qam7 x=true→secN x bs=false
 | 0,x,hn,_=>by have:=Qj7 x; omega
 | n+1,x,hn,hf=>by
  have e:=Qi0 x;rw[Qagv] at hf;simp only[Bool.and_eq_true,Bool.not_eq_true'] at hf;rw[Qaez,hf.1,if_neg (by simp),Qaq7 h];split
  ·rfl
  ·split
   ·have key:∀ r:List Qab,(∀ y ∈ r,nn y≤n)→Qwk r=true→secL r bs=false:=by
     intro r
     induction r with
     | nil=>intro _ _; rw[secL]
     | cons y r ih =>
      intro hy hs;rw[Qwk,Bool.and_eq_true] at hs;rw[secL,Qant h n y (hy y (by simp)) hs.1,ih (fun z hz=>hy z (by simp[hz])) hs.2];rfl
    exact key x.L (fun y hy=>by have:=Qe9 hy; omega) hf.2.1
   ·rfl
theorem Qar6{bs:List Qah}(h:noS bs){a:List Qab}(hf:Qwk a=true):hdS a bs=false:=by
 cases a with
 | nil=>rfl
 | cons y r =>
  rw[Qwk,Bool.and_eq_true] at hf;exact Qant h _ y (Nat.le_refl _) hf.1
theorem Qaq8{U:Nm→Bool→Qa6}(w:Nm):∀ n (nl:List Qab) (bs:List Qah),nns nl≤n→Qwk nl=true→noS bs→(∀ u ∈ usL nl,U u false=Qmk)→blS U w nl bs=Qmk:=by
 intro n
 induction n with
 | zero =>
  intro nl bs h _ _ _;cases nl with
  | nil=>rw[blS]
  | cons x r=>rw[nns] at h; have:=Qj7 x; omega
 | succ n ih =>
  intro nl
  induction nl with
  | nil=>intro bs _ _ _ _; rw[blS]
  | cons x r ihr =>
   intro bs h hf hb hU;rw[nns] at h;have e:=Qi0 x;rw[Qwk,Bool.and_eq_true,Qagv] at hf;simp only[Bool.and_eq_true] at hf;obtain⟨⟨-,f1,f2,f3⟩,f4⟩:=hf;have hm:noS (Qp6 x.Kind x.Name false bs):=fun b hb' => by
    unfold Qp6 at hb';split at hb'
    ·rcases List.mem_append.1 hb' with k | k
     ·exact hb b k
     ·rw[List.mem_singleton.1 k]
    ·split at hb'
     ·rcases List.mem_append.1 hb' with k | k
      ·exact hb b k
      ·rw[List.mem_singleton.1 k]
     ·exact hb b hb'
   have hu:(if x.Kind==13 then U x.Name false else Qmk)=Qmk:=by
    split
    ·rename_i h13;exact hU x.Name (by rw[usL,Qiz,if_pos h13]; simp)
    ·rfl
   have hs:stS U w x bs=Qmk:=by
    rw[Qac5,Qar6 hb f1,ih x.Then _ (by omega) f2 hm fun u hu=>hU u (by rw[usL,Qiz]; simp[hu]),ih x.Else bs (by omega) f3 hb fun u hu=>hU u (by rw[usL,Qiz]; simp[hu])];simp only[Bool.false_and,Bool.false_eq_true,if_false,hu,Bool.and_false,Bool.or_self,ite_self]
   rw[blS,hs,ihr bs (by omega) f4 hb fun u hu=>hU u (by rw[usL]; simp[hu])];rfl
theorem Qash{l:List Qae}(hf:fine l)(hfr:∀ x ∈ l,Qwk x.L=true):∀ n s,(reaP l s).length≤n→uS l s false=Qmk:=by
 have hfi:∀ s,Qwk (Qk1 l s).1=true:=fun s=>by
  unfold Qk1;cases hq:fndT l s with
  | none=>rfl
  | some x=>exact hfr x (List.mem_of_find?_eq_some hq)
 have hno:noS (itB false):=fun b hb=>by
  simp only[itB,List.mem_cons,List.not_mem_nil,or_false] at hb;rcases hb with rfl | rfl<;>rfl
 intro n
 induction n with
 | zero =>
  intro s hn;rw[Qale hf];refine Qaq8 s _ _ _ (Nat.le_refl _) (hfi s) hno fun u hu=>?_
  have:=Qla hf.closed hf.noring (Qpa hu);omega
 | succ n ih =>
  intro s hn;rw[Qale hf];refine Qaq8 s _ _ _ (Nat.le_refl _) (hfi s) hno fun u hu=>?_
  have:=Qla hf.closed hf.noring (Qpa hu);exact ih u (by omega)
theorem Qalk{l:List Qae}(ho:okTs l):∀ n (nl:List Qab),n≤1000→nns nl≤n→(∀ u ∈ usL nl,∀ m:Int,∃ v,Qf5 l (Qk1 l u).1 m=some v)→∀ m:Int,∃ v,Qf5 l nl m=some v:=by
 have hlen:=ho.len;intro n
 induction n with
 | zero =>
  intro nl _ h _ m;cases nl with
  | nil=>exact⟨0,by rw[Qf5,Qfe]; rfl⟩
  | cons x r=>rw[nns] at h; have:=Qj7 x; omega
 | succ n ih =>
  intro nl hn h hUs m;have hll:=Qev nl;have key:∀ k,k≤nl.length→∀ a:Int,∃ v,Qfe l nl m a k=some v:=by
   refine upto ?_ fun k hk ih2=>?_
   ·intro a;have:decide (((nl.length:Nat):Int)<(nl.length:Int))=false:=decide_eq_false (by omega);exact⟨a,by rw[Qfe,this,if_neg (by simp),Qad,if_neg (by simp)]⟩
   ·intro a;have hm:=List.getElem_mem hk;have hnn:=Qe9 hm;have e:=Qi0 nl[k];rw[Qfe,ltI,decide_eq_true hk,if_pos rfl,Qad];split
    ·obtain⟨v1,h1⟩:=ih nl[k].Then (by omega) (by omega) (fun u hu=>hUs u (Qpb hm u (by rw[Qiz]; simp[hu]))) (wr (m-a));obtain⟨v2,h2⟩:=ih nl[k].Else (by omega) (by omega) (fun u hu=>hUs u (Qpb hm u (by rw[Qiz]; simp[hu]))) (wr (m-a));simp only[Qbc,getE hk,Qad,h1,h2,Qba (show k<9223372036854775807 by omega)];by_cases h13:(nl[k].Kind==13)=true
     ·obtain⟨v3,h3⟩:=hUs nl[k].Name (Qpb hm _ (by rw[Qiz,if_pos h13]; simp)) (wr (m-wr (wr (wr (a+1)+v1)+v2)));rw[if_pos h13,Qad];split
      ·rw[Qac3 l _ (by omega),Qad,h3,Qad];exact ih2 _
      ·exact ih2 _
     ·rw[if_neg h13,Qad,if_neg (by simp)];exact ih2 _
    ·exact⟨a,rfl⟩
  obtain⟨v,hv⟩:=key 0 (by omega) 0;rw[show((0:Nat):Int)=0 from rfl] at hv;exact⟨v,by rw[Qf5,hv]; rfl⟩
theorem Qam8{l:List Qae}(ho:okTs l)(hf:fine l):∀ n s,(reaP l s).length≤n→∀ m:Int,∃ v,Qf5 l (Qk1 l s).1 m=some v:=by
 intro n
 induction n with
 | zero =>
  intro s hn;refine Qalk ho 100 _ (by omega) (Qq4 ho s) fun u hu=>?_
  have:=Qla hf.closed hf.noring (Qpa hu);omega
 | succ n ih =>
  intro s hn;refine Qalk ho 100 _ (by omega) (Qq4 ho s) fun u hu=>?_
  have:=Qla hf.closed hf.noring (Qpa hu);exact ih u (by omega)
end Go.Proofs.YtfgegilhjlnohaaGreat
end
