/- The proof's texts, part 7 of 12: the walks by a logic in which data are by value, the plain laws, and at the end the law, for every input. -/
import Derived.Test.YtagokkpnfceidaaGreatDoorMgParseBounds6
import Derived.Deep.DeepCutAuto
import Derived.Deep.CutRange
import Derived.Recover
import Derived.RecoverIn

section
namespace Go.Proofs.YtagokkpnfceidaaGreatDoor
open Go.RowKit
def numCore (below:Bool) (rest:List UInt8):Int×Bool :=
 if rest=[]∨(1<rest.length∧rest.head? = some 48)∨(below=true∧rest=[48]) then(0,false)
 else match numGo (if below then 9223372036854775808 else 9223372036854775807) rest 0 with
  | some u=>(if below then -(u:Int) else u,true)
  | none=>(0,false)
theorem Q42 (l:List UInt8):numP l=numCore (Lib.hasPrefix l [45]) (Lib.trimPrefix l [45]):=by
 cases l with
 | nil=>simp[numP,numCore,Lib.hasPrefix,Lib.trimPrefix]
 | cons a t =>
  by_cases ha:a=45
  ·subst ha; simp[numP,numCore,Lib.hasPrefix,Lib.trimPrefix]; try rfl
  ·have hb:¬ (45:UInt8)=a:=fun e=>ha e.symm
   simp[numP,numCore,Lib.hasPrefix,Lib.trimPrefix,hb,ha]; try rfl
theorem Q2m (most:Nat) (rs:ByteArray) (k n:Nat) (h:k<rs.size):numGo most (rs.data.toList.drop k) n =
  if isD rs[k]&&decide (n≤(most-dv rs[k]) / 10) then numGo most (rs.data.toList.drop (k+1)) (n*10+dv rs[k]) else none:=by
 have h' : k<rs.data.toList.length:=by rw[← Qd8]; exact h
 rw[List.drop_eq_getElem_cons h']; rfl
theorem Q69 (u:Nat) (h:u≤9223372036854775808):wrap64 (IntKind.u64.wrap (-(u:Int))) = -(u:Int):=by
 simp[wrap64,IntKind.wrap,IntKind.bits,IntKind.signed]
 omega
theorem Qoo (most n:Nat) (h9:9≤most) (c:UInt8):(isD c&&decide (n≤(most-dv c) / 10))=decide ((48:Int)≤(c.toNat:Int)∧(c.toNat:Int)≤57∧(n:Int)≤((most:Int)-((c.toNat:Int)-48)) / 10):=by
 rw[Bool.eq_iff_iff]; simp only[isD,dv,Bool.and_eq_true,decide_eq_true_eq,Nat.le_div_iff_mul_le (show 0<10 by decide),Int.le_ediv_iff_mul_le (show(0:Int)<10 by decide)]
 omega
def badB (below:Bool) (rs:ByteArray):Bool:=rs.toList.isEmpty||(decide (1<(rs.size:Int))&&(if h:0<rs.size then((rs[0].toNat:Int)==48) else false))||(below&&rs.toList==[48])
theorem Q43 (below:Bool) (rs:ByteArray):badB below rs=(rs.data.toList.isEmpty||(decide (1<rs.data.toList.length)&&decide ((rs.data.toList.getD 0 0).toNat=48))||(below&&rs.data.toList==[48])):=by
 unfold badB
 rw[Lib.toList_data]
 congr 2
 by_cases h1:1<(rs.size:Int)
 ·have h0:0<rs.size:=by omega
  rw[dif_pos h0,Qsa,Qd8]
  rw[Qd8] at h1
  have h2:1<rs.data.toList.length:=by omega
  rw[decide_eq_true h1,decide_eq_true h2]
  simp only[Bool.true_and]
  rw[Bool.eq_iff_iff]; simp; omega
 ·have h2:¬ 1<rs.data.toList.length:=by rw[← Qd8]; omega
  rw[decide_eq_false h1,decide_eq_false h2]; simp
theorem Q6e (below:Bool) (rs:ByteArray) (h:badB below rs=true):numCore below rs.data.toList=(0,false):=by
 rw[numCore,if_pos]
 rw[Q43] at h
 simp only[Bool.or_eq_true,Bool.and_eq_true,decide_eq_true_eq,List.isEmpty_iff,beq_iff_eq] at h
 rcases h with (h | ⟨h1,h2⟩) | h
 ·exact .inl h
 ·refine .inr (.inl ⟨h1,?_⟩)
  cases hl:rs.data.toList with
  | nil=>rw[hl] at h1; simp at h1
  | cons a t=>rw[hl] at h2; simp at h2; simp[← UInt8.toNat_inj,h2]
 ·exact .inr (.inr h)
theorem Q44 (below:Bool) (rs:ByteArray) (h:badB below rs=false):numCore below rs.data.toList =
  match numGo (if below then 9223372036854775808 else 9223372036854775807) rs.data.toList 0 with
  | some u=>(if below then -(u:Int) else u,true)
  | none=>(0,false):=by
 rw[numCore,if_neg]
 rw[Q43] at h
 rintro (h' | ⟨h1,h2⟩ | ⟨h1,h2⟩)
 ·simp[h'] at h
 ·cases hl:rs.data.toList with
  | nil=>rw[hl] at h1; simp at h1
  | cons a t =>
   rw[hl] at h2; simp at h2; subst h2
   rw[hl] at h h1
   simp at h1; simp[h1] at h
 ·simp[h1,h2] at h
set_option maxHeartbeats 4000000 in
theorem Q1a (below:Bool) (s rs:ByteArray) (hs:rs.size≤maxLen) (w:World)
  (hc:∀ w,Calls Tryz.prog 110 #[.string s,.string ⟨#[45]⟩] w fun e w' => e = .returned (.tuple #[.string rs,.bool below])∧w' = w) :
  Calls Tryz.prog 90 #[.string s] w fun e w' => e = .returned (.tuple #[.int .i64 (numCore below rs.data.toList).1,.bool (numCore below rs.data.toList).2])∧w=w' := by
 unfold maxLen at hs
 have HC:=Lib.hid hc; clear hc
 have hb1:=Q6e below rs
 have hb2:=Q44 below rs
 have HB1:=Lib.hid hb1; clear hb1
 have HB2:=Lib.hid hb2; clear hb2
 cases below
 all_goals
  go_enter Tryz.func90,Tryz.ntmps90
  go_upto_region 2 with ((go_at_call 110; refine(HC.out _).mono ?_; rintro e w' ⟨rfl,rfl⟩))
 ·go_cut [33] (fun c wx=>c = .bool (badB false rs)∧wx=w')
  case first =>
   go_wp2_with fail
   all_goals
    go_meet
    refine⟨congrArg Value.bool ?_,rfl⟩
    unfold badB
    first
     | (simp[*]; done)
     | (simp[*]; intros; omega)
     | (rw[show decide (1<(rs.size:Int))=false from decide_eq_false (by omega)]; simp)
  case rest =>
   obtain⟨rfl,rfl⟩:=hcut
   cases hbad:badB false rs
   ·have hr:=HB2.out hbad
    simp only[Bool.false_eq_true,↓reduceIte] at hr
    have HR:=Lib.hid hr; clear hr
    go_wp2_with fail
    go_loop [7,39] (fun u i=>∃ (k n:Nat),k≤rs.size∧i = .int .i64 k∧u = .int .u64 n∧n≤9223372036854775807∧numGo 9223372036854775807 rs.data.toList 0=numGo 9223372036854775807 (rs.data.toList.drop k) n) (fun _ i=>rs.size-(intOf i).toNat)
    case atStart=>exact⟨0,0,by omega,rfl,rfl,by omega,by simp⟩
    case round =>
     obtain⟨k,n,hk,rfl,rfl,hn,hg⟩:=hrel
     have HG:=Lib.hid hg; clear hg
     by_cases hlt:k<rs.size
     ·have hstep:=Q2m 9223372036854775807 rs k n hlt
      have HS:=Lib.hid hstep; clear hstep
      generalize hck:rs[k]=c at HS
      have hck2:rs[k]=c:=hck
      clear hck
      by_cases hgood:(48:Int)≤(c.toNat:Int)∧(c.toNat:Int)≤57∧(n:Int)≤(9223372036854775807-((c.toNat:Int)-48)) / 10
      ·obtain⟨g1,g2,g3⟩:=hgood
       go_wp2
       go_round
       case rel=>exact⟨k+1,n*10+dv c,by omega,by go_num,by congr 1; unfold dv; omega,by unfold dv; omega,by rw[HG.out,HS.out,if_pos (by rw[Qoo _ _ (by omega)]; exact decide_eq_true ⟨g1,g2,by omega⟩)]⟩
       case measure=>simp[intOf]; omega
      ·have hbad:numGo 9223372036854775807 rs.data.toList 0=none:=by
        rw[HG.out,HS.out,if_neg]
        rw[Qoo _ _ (by omega)]; intro e; exact hgood (of_decide_eq_true e)
       have HB:=Lib.hid hbad; clear hbad
       go_wp2
       all_goals
        go_ret2
        exact⟨Qmq (by rw[HR.out,HB.out]) (by rw[HR.out,HB.out]),rfl⟩
     ·have hge:rs.size≤k:=by omega
      have hfin:numGo 9223372036854775807 rs.data.toList 0=some n:=by
       rw[HG.out,List.drop_of_length_le (by rw[← Qd8]; exact hge)]; rfl
      have HB:=Lib.hid hfin; clear hfin
      go_wp2
      go_ret2
      exact⟨Qmq (by rw[HR.out,HB.out]) (by rw[HR.out,HB.out]),rfl⟩
   ·have HR:=Lib.hid (HB1.out hbad)
    go_wp2_with fail
    go_ret2
    exact⟨Qmq (by rw[HR.out]) (by rw[HR.out]),rfl⟩
 ·go_cut [33] (fun c wx=>c = .bool (badB true rs)∧wx=w')
  case first =>
   go_wp2_with fail
   all_goals
    go_meet
    refine⟨congrArg Value.bool ?_,rfl⟩
    unfold badB
    first
     | (simp[*]; done)
     | (simp[*]; intros; omega)
     | (rw[show decide (1<(rs.size:Int))=false from decide_eq_false (by omega)]; simp)
  case rest =>
   obtain⟨rfl,rfl⟩:=hcut
   cases hbad:badB true rs
   ·have hr:=HB2.out hbad
    simp only[↓reduceIte] at hr
    have HR:=Lib.hid hr; clear hr
    go_wp2_with fail
    go_loop [7,39] (fun u i=>∃ (k n:Nat),k≤rs.size∧i = .int .i64 k∧u = .int .u64 n∧n≤9223372036854775808∧numGo 9223372036854775808 rs.data.toList 0=numGo 9223372036854775808 (rs.data.toList.drop k) n) (fun _ i=>rs.size-(intOf i).toNat)
    case atStart=>exact⟨0,0,by omega,rfl,rfl,by omega,by simp⟩
    case round =>
     obtain⟨k,n,hk,rfl,rfl,hn,hg⟩:=hrel
     have HG:=Lib.hid hg; clear hg
     by_cases hlt:k<rs.size
     ·have hstep:=Q2m 9223372036854775808 rs k n hlt
      have HS:=Lib.hid hstep; clear hstep
      generalize hck:rs[k]=c at HS
      have hck2:rs[k]=c:=hck
      clear hck
      by_cases hgood:(48:Int)≤(c.toNat:Int)∧(c.toNat:Int)≤57∧(n:Int)≤(9223372036854775808-((c.toNat:Int)-48)) / 10
      ·obtain⟨g1,g2,g3⟩:=hgood
       go_wp2
       go_round
       case rel=>exact⟨k+1,n*10+dv c,by omega,by go_num,by congr 1; unfold dv; omega,by unfold dv; omega,by rw[HG.out,HS.out,if_pos (by rw[Qoo _ _ (by omega)]; exact decide_eq_true ⟨g1,g2,by omega⟩)]⟩
       case measure=>simp[intOf]; omega
      ·have hbad:numGo 9223372036854775808 rs.data.toList 0=none:=by
        rw[HG.out,HS.out,if_neg]
        rw[Qoo _ _ (by omega)]; intro e; exact hgood (of_decide_eq_true e)
       have HB:=Lib.hid hbad; clear hbad
       go_wp2
       all_goals
        go_ret2
        exact⟨Qmq (by rw[HR.out,HB.out]) (by rw[HR.out,HB.out]),rfl⟩
     ·have hge:rs.size≤k:=by omega
      have hfin:numGo 9223372036854775808 rs.data.toList 0=some n:=by
       rw[HG.out,List.drop_of_length_le (by rw[← Qd8]; exact hge)]; rfl
      have HB:=Lib.hid hfin; clear hfin
      go_wp2
      go_ret2
      exact⟨Qmq ((Q69 n hn).trans (by rw[HR.out,HB.out])) (by rw[HR.out,HB.out]),rfl⟩
   ·have HR:=Lib.hid (HB1.out hbad)
    go_wp2_with fail
    go_ret2
    exact⟨Qmq (by rw[HR.out]) (by rw[HR.out]),rfl⟩
theorem Q3q (s:ByteArray) (hs:s.size≤maxLen) (w:World) :
  Calls Tryz.prog 90 #[.string s] w fun e w' => e = .returned (.tuple #[.int .i64 (numP s.data.toList).1,.bool (numP s.data.toList).2])∧w=w' := by
 have h:=Q1a (Lib.hasPrefix s.data.toList [45]) s ⟨(Lib.trimPrefix s.data.toList [45]).toArray⟩ (by
  have:=Lib.trimPrefix_le s.data.toList [45]
  rw[Qd8] at hs ⊢; simp only[]; omega) w (fun w=>Tryz.strings_CutPrefix s ⟨#[45]⟩ w)
 rw[Q42]
 exact h
end Go.Proofs.YtagokkpnfceidaaGreatDoor
end

section
namespace Go.Proofs.YtagokkpnfceidaaGreatDoor
open Go.RowKit
def rFold (neg:Bool) (n:Int) (c:UInt8):Int:=if neg then wrap64 (wrap64 (10*n)-((c.toNat:Int)-48)) else wrap64 (wrap64 (10*n)+((c.toNat:Int)-48))
def rnumP (l:List UInt8):Int×Bool :=
 if l.length<1∨20<l.length then(0,false)
 else
  let neg:=l.head? == some 45
  let rest:=if neg then l.tail else l
  if rest.all isD then
   let n:=rest.foldl (rFold neg) 0
   if textL n=l then(n,true) else(0,false)
  else(0,false)
theorem Qro (n:Int) : -9223372036854775808≤wrap64 n∧wrap64 n≤9223372036854775807:=by
 simp[wrap64]; omega
theorem Q6v (rs:ByteArray) (k:Nat) (h:k<rs.size):(rs.data.toList.drop k).all isD=(isD rs[k]&&(rs.data.toList.drop (k+1)).all isD):=by
 have h' : k<rs.data.toList.length:=by rw[← Qd8]; exact h
 rw[List.drop_eq_getElem_cons h']; rfl
theorem Q45 (neg:Bool) (rs:ByteArray) (k:Nat) (h:k<rs.size) (n:Int):(rs.data.toList.drop k).foldl (rFold neg) n=(rs.data.toList.drop (k+1)).foldl (rFold neg) (rFold neg n rs[k]):=by
 have h' : k<rs.data.toList.length:=by rw[← Qd8]; exact h
 rw[List.drop_eq_getElem_cons h']; rfl
theorem Qw9 (c:UInt8):isD c=decide ((48:Int)≤(c.toNat:Int)∧(c.toNat:Int)≤57):=by
 rw[Bool.eq_iff_iff]; simp[isD]; omega
set_option maxHeartbeats 4000000 in
theorem Q1b (s:ByteArray) (hs:s.size≤maxLen) (w:World) :
  Calls Tryz.prog 65 #[.string s] w fun e w' => e = .returned (.tuple #[.int .i64 (rnumP s.data.toList).1,.bool (rnumP s.data.toList).2])∧Below w.heap.size w w' := by
 unfold maxLen at hs
 by_cases hlen:s.data.toList.length<1∨20<s.data.toList.length
 ·have hr:rnumP s.data.toList=(0,false):=by rw[rnumP,if_pos hlen]
  rw[hr]; clear hr
  rw[← Qd8] at hlen
  go_enter Tryz.func65,Tryz.ntmps65
  go_wp2_with fail
  all_goals (go_ret2; exact⟨rfl,Below.refl _ _⟩)
 ·have hl1:0<s.size:=by rw[Qd8]; omega
  have hl2:s.size≤20:=by rw[Qd8]; omega
  have hneg:(s.data.toList.head? == some 45)=decide ((s[0].toNat:Int)=45):=by
   rw[Qsa]
   cases hl:s.data.toList with
   | nil=>rw[Qd8,hl] at hl1; simp at hl1
   | cons a t=>rw[Bool.eq_iff_iff]; simp[← UInt8.toNat_inj]; omega
  have hr:rnumP s.data.toList=(if(if(s.data.toList.head? == some 45) then s.data.toList.tail else s.data.toList).all isD then
   (if textL ((if(s.data.toList.head? == some 45) then s.data.toList.tail else s.data.toList).foldl (rFold (s.data.toList.head? == some 45)) 0)=s.data.toList then((if(s.data.toList.head? == some 45) then s.data.toList.tail else s.data.toList).foldl (rFold (s.data.toList.head? == some 45)) 0,true) else(0,false)) else(0,false)):=by
   rw[rnumP,if_neg hlen]
  rw[hneg] at hr
  by_cases h45:(s[0].toNat:Int)=45
  ·rw[decide_eq_true h45] at hr
   simp only[↓reduceIte,← List.drop_one] at hr
   have HR:=Lib.hid hr; clear hr
   clear hneg hlen
   go_enter Tryz.func65,Tryz.ntmps65
   go_wp2_with fail
   go_loop [5,6] (fun n i=>∃ (k:Nat) (m:Int),k≤s.size∧i = .int .i64 k∧n = .int .i64 m ∧ -9223372036854775808≤m∧m≤9223372036854775807∧(s.data.toList.drop 1).all isD=(s.data.toList.drop k).all isD∧(s.data.toList.drop 1).foldl (rFold true) 0=(s.data.toList.drop k).foldl (rFold true) m) (fun _ i=>s.size-(intOf i).toNat)
   case atStart=>exact⟨1,0,by omega,rfl,rfl,by omega,by omega,rfl,rfl⟩
   case round =>
    obtain⟨k,m,hk,rfl,rfl,hm0,hm1,hal,hfo⟩:=hrel
    have HA:=Lib.hid hal; clear hal
    have HF:=Lib.hid hfo; clear hfo
    by_cases hlt:k<s.size
    ·have HS1:=Lib.hid (Q6v s k hlt)
     have HS2:=Lib.hid (Q45 true s k hlt m)
     have hwr:=Qro (wrap64 (10*m)-((s[k].toNat:Int)-48))
     have HW:=Lib.hid hwr; clear hwr
     generalize hck:s[k]=c at HS1 HS2 HW
     have hck2:s[k]=c:=hck
     clear hck
     by_cases hd:(48:Int)≤(c.toNat:Int)∧(c.toNat:Int)≤57
     ·obtain⟨g1,g2⟩:=hd
      go_wp2
      go_round
      case rel=>exact⟨k+1,_,by omega,by go_num,rfl,HW.out.1,HW.out.2,by rw[HA.out,HS1.out,Qw9,decide_eq_true ⟨g1,g2⟩]; rfl,by rw[HF.out,HS2.out]; rfl⟩
      case measure=>simp[intOf]; omega
     ·have hbad:(s.data.toList.drop 1).all isD=false:=by
       rw[HA.out,HS1.out,Qw9,decide_eq_false hd]; rfl
      have HB:=Lib.hid hbad; clear hbad
      go_wp2
      all_goals
       go_ret2
       exact⟨Qmq (by rw[HR.out,HB.out]; rfl) (by rw[HR.out,HB.out]; rfl),Below.refl _ _⟩
    ·have hge:s.size≤k:=by omega
     have hz:s.data.toList.drop k=[]:=List.drop_of_length_le (by rw[← Qd8]; exact hge)
     have hall:(s.data.toList.drop 1).all isD=true:=by rw[HA.out,hz]; rfl
     have hfin:(s.data.toList.drop 1).foldl (rFold true) 0=m:=by rw[HF.out,hz]; rfl
     clear hz
     have HB:=Lib.hid hall; clear hall
     have HC:=Lib.hid hfin; clear hfin
     by_cases hq:textL m=s.data.toList
     ·have hqb:(textL m==s.toList)=true:=by rw[Lib.toList_data]; simpa using hq
      have HQ:=Lib.hid hq; clear hq
      go_wp2_with fail
      refine(Qqi m hm0 hm1 _).mono ?_
      rintro e w' ⟨rfl,hb⟩
      go_wp2_with fail
      go_ret2
      exact⟨Qmq (by rw[HR.out,HB.out,HC.out,if_pos HQ.out]; rfl) (by rw[HR.out,HB.out,HC.out,if_pos HQ.out]; rfl),hb⟩
     ·have hqb:(textL m==s.toList)=false:=by rw[Lib.toList_data]; simpa using hq
      have HQ:=Lib.hid hq; clear hq
      go_wp2_with fail
      refine(Qqi m hm0 hm1 _).mono ?_
      rintro e w' ⟨rfl,hb⟩
      go_wp2_with fail
      go_ret2
      exact⟨Qmq (by rw[HR.out,HB.out,HC.out,if_neg HQ.out]; rfl) (by rw[HR.out,HB.out,HC.out,if_neg HQ.out]; rfl),hb⟩
  ·rw[decide_eq_false h45] at hr
   simp only[Bool.false_eq_true,↓reduceIte] at hr
   have HR:=Lib.hid hr; clear hr
   have hb45:((s[0].toNat:Int)==45)=false:=by simpa using h45
   clear hneg hlen
   go_enter Tryz.func65,Tryz.ntmps65
   go_wp2_with fail
   go_loop [5,6] (fun n i=>∃ (k:Nat) (m:Int),k≤s.size∧i = .int .i64 k∧n = .int .i64 m ∧ -9223372036854775808≤m∧m≤9223372036854775807∧s.data.toList.all isD=(s.data.toList.drop k).all isD∧s.data.toList.foldl (rFold false) 0=(s.data.toList.drop k).foldl (rFold false) m) (fun _ i=>s.size-(intOf i).toNat)
   case atStart=>exact⟨0,0,by omega,rfl,rfl,by omega,by omega,rfl,rfl⟩
   case round =>
    obtain⟨k,m,hk,rfl,rfl,hm0,hm1,hal,hfo⟩:=hrel
    have HA:=Lib.hid hal; clear hal
    have HF:=Lib.hid hfo; clear hfo
    by_cases hlt:k<s.size
    ·have HS1:=Lib.hid (Q6v s k hlt)
     have HS2:=Lib.hid (Q45 false s k hlt m)
     have hwr:=Qro (wrap64 (10*m)+((s[k].toNat:Int)-48))
     have HW:=Lib.hid hwr; clear hwr
     generalize hck:s[k]=c at HS1 HS2 HW
     have hck2:s[k]=c:=hck
     clear hck
     by_cases hd:(48:Int)≤(c.toNat:Int)∧(c.toNat:Int)≤57
     ·obtain⟨g1,g2⟩:=hd
      go_wp2
      go_round
      case rel=>exact⟨k+1,_,by omega,by go_num,rfl,HW.out.1,HW.out.2,by rw[HA.out,HS1.out,Qw9,decide_eq_true ⟨g1,g2⟩]; rfl,by rw[HF.out,HS2.out]; rfl⟩
      case measure=>simp[intOf]; omega
     ·have hbad:s.data.toList.all isD=false:=by
       rw[HA.out,HS1.out,Qw9,decide_eq_false hd]; rfl
      have HB:=Lib.hid hbad; clear hbad
      go_wp2
      all_goals
       go_ret2
       exact⟨Qmq (by rw[HR.out,HB.out]; rfl) (by rw[HR.out,HB.out]; rfl),Below.refl _ _⟩
    ·have hge:s.size≤k:=by omega
     have hz:s.data.toList.drop k=[]:=List.drop_of_length_le (by rw[← Qd8]; exact hge)
     have hall:s.data.toList.all isD=true:=by rw[HA.out,hz]; rfl
     have hfin:s.data.toList.foldl (rFold false) 0=m:=by rw[HF.out,hz]; rfl
     clear hz
     have HB:=Lib.hid hall; clear hall
     have HC:=Lib.hid hfin; clear hfin
     by_cases hq:textL m=s.data.toList
     ·have hqb:(textL m==s.toList)=true:=by rw[Lib.toList_data]; simpa using hq
      have HQ:=Lib.hid hq; clear hq
      go_wp2_with fail
      refine(Qqi m hm0 hm1 _).mono ?_
      rintro e w' ⟨rfl,hb⟩
      go_wp2_with fail
      go_ret2
      exact⟨Qmq (by rw[HR.out,HB.out,HC.out,if_pos HQ.out]; rfl) (by rw[HR.out,HB.out,HC.out,if_pos HQ.out]; rfl),hb⟩
     ·have hqb:(textL m==s.toList)=false:=by rw[Lib.toList_data]; simpa using hq
      have HQ:=Lib.hid hq; clear hq
      go_wp2_with fail
      refine(Qqi m hm0 hm1 _).mono ?_
      rintro e w' ⟨rfl,hb⟩
      go_wp2_with fail
      go_ret2
      exact⟨Qmq (by rw[HR.out,HB.out,HC.out,if_neg HQ.out]; rfl) (by rw[HR.out,HB.out,HC.out,if_neg HQ.out]; rfl),hb⟩
theorem Qop (x:Int):∃ k:Int,wrap64 x=x-18446744073709551616*k:=⟨(x+9223372036854775808) / 18446744073709551616,by simp only[wrap64]; omega⟩
theorem Qwe (x k:Int):wrap64 (x-18446744073709551616*k)=wrap64 x:=by simp only[wrap64]; omega
theorem Qxa (x d:Int):wrap64 (wrap64 (10*wrap64 x)-d)=wrap64 (10*x-d):=by
 obtain⟨k,hk⟩:=Qop x
 obtain⟨j,hj⟩:=Qop (10*wrap64 x)
 rw[hj,hk,← Qwe (10*x-d) (10*k+j)]
 congr 1; omega
theorem Qxb (x d:Int):wrap64 (wrap64 (10*wrap64 x)+d)=wrap64 (10*x+d):=by
 obtain⟨k,hk⟩:=Qop x
 obtain⟨j,hj⟩:=Qop (10*wrap64 x)
 rw[hj,hk,← Qwe (10*x+d) (10*k+j)]
 congr 1; omega
theorem Q2n (W:Nat→Int) (g:Int→UInt8→Int) (hs:∀ v c,isD c=true→g (W v) c=W (v*10+dv c)) (l:List UInt8) (h:l.all isD=true) :
  ∀ v:Nat,l.foldl g (W v)=W (l.foldl (fun u c=>u*10+dv c) v):=by
 induction l with
 | nil=>intro v; rfl
 | cons c t ih =>
  intro v
  simp only[List.all_cons,Bool.and_eq_true] at h
  simp only[List.foldl_cons]
  rw[hs v c h.1,ih h.2]
def Wneg (v:Nat):Int:=wrap64 (-(v:Int))
def Wpos (v:Nat):Int:=wrap64 (v:Int)
theorem Q6f (v:Nat) (c:UInt8) (h:isD c=true):rFold true (Wneg v) c=Wneg (v*10+dv c):=by
 have hc:(10*(-(v:Int))-((c.toNat:Int)-48)) = -((v*10+dv c:Nat):Int):=by
  simp[isD] at h; unfold dv; omega
 unfold Wneg
 rw[← hc,← Qxa,rFold,if_pos rfl]
theorem Q6g (v:Nat) (c:UInt8) (h:isD c=true):rFold false (Wpos v) c=Wpos (v*10+dv c):=by
 have hc:(10*(v:Int)+((c.toNat:Int)-48))=((v*10+dv c:Nat):Int):=by
  simp[isD] at h; unfold dv; omega
 unfold Wpos
 rw[← hc,← Qxb,rFold,if_neg (by simp)]
theorem Qzm (n:Int) (h:inI64 n):wrap64 n=n:=by
 obtain⟨a,b⟩:=h; simp only[wrap64]; omega
theorem Q6h (neg:Bool) (l:List UInt8) (n:Int) (h:inI64 n):inI64 (l.foldl (rFold neg) n):=by
 induction l generalizing n with
 | nil=>exact h
 | cons c t ih =>
  refine ih _ ?_
  unfold rFold
  split<;>exact Qro _
theorem Q6i (l:List UInt8):rnumP l=numP l:=by
 by_cases hx:∃ n,inI64 n∧l=textL n
 ·obtain⟨n,hn,rfl⟩:=hx
  rw[Q4y n hn]
  obtain⟨l1,l2⟩:=Q40 n hn
  rw[rnumP,if_neg (by omega)]
  rcases Int.lt_or_le n 0 with h | h
  ·have ht:textL n=45::digs n.natAbs:=by rw[textL,if_pos h]
   have hf:=Q2n Wneg (rFold true) Q6f (digs n.natAbs) (Ql2 _) 0
   have hv:(digs n.natAbs).foldl (fun u c=>u*10+dv c) 0=n.natAbs:=Qs7 _
   have h0:Wneg 0=0:=by simp[Wneg,wrap64]
   rw[hv,h0,Wneg,show(-(n.natAbs:Int))=n by omega,Qzm n hn] at hf
   have e:((textL n).head? == some 45)=true:=by rw[ht]; rfl
   simp only[e,↓reduceIte]
   have et:(textL n).tail=digs n.natAbs:=by rw[ht]; rfl
   rw[et,hf,Ql2]
   simp
  ·have ht:textL n=digs n.natAbs:=by rw[textL,if_neg (by omega)]
   have hf:=Q2n Wpos (rFold false) Q6g (digs n.natAbs) (Ql2 _) 0
   have hv:(digs n.natAbs).foldl (fun u c=>u*10+dv c) 0=n.natAbs:=Qs7 _
   have h0:Wpos 0=0:=by simp[Wpos,wrap64]
   rw[hv,h0,Wpos,show(n.natAbs:Int)=n by omega,Qzm n hn] at hf
   have e:((textL n).head? == some 45)=false:=by
    rw[ht]; simpa using Qsb n.natAbs 45 (by decide)
   simp only[e,Bool.false_eq_true,↓reduceIte]
   rw[show(textL n).all isD=true by rw[ht]; exact Ql2 _,show(textL n).foldl (rFold false) 0=n by rw[ht]; exact hf]
   simp
 ·rw[Q3p l (fun n hn e=>hx ⟨n,hn,e⟩)]
  rw[rnumP]
  by_cases h1:l.length<1∨20<l.length
  ·rw[if_pos h1]
  ·rw[if_neg h1]
   dsimp only
   rw[if_neg (c:=textL _=l) (fun e=>hx ⟨_,Q6h _ _ 0 (by unfold inI64; omega),e.symm⟩)]
   exact ite_self _
end Go.Proofs.YtagokkpnfceidaaGreatDoor
end

section
namespace Go.Proofs.YtagokkpnfceidaaGreatDoor
open Go.RowKit
theorem Q3r (l:List UInt8) (hl:l.length≤9223372036854775807):PCall Tryz.prog 65 [sV l] (.tup [.p (iV (rnumP l).1),.p (bV (rnumP l).2)]):=by
 refine PCall.ofCallsG (R :=.tuple #[.int .i64 (rnumP l).1,.bool (rnumP l).2]) (by kernel_rfl) (fun _ _=>dtup2 rfl rfl) fun w us _ hs h=>?_
 obtain⟨a,rfl⟩:=us1 hs
 obtain⟨_,h0'⟩:=h 0 _ a rfl rfl
 rw[Qle h0']
 refine(Q1b ⟨l.toArray⟩ (by show l.toArray.size≤9223372036854775807; simpa using hl) w).mono fun e w' h=>?_
 first | exact h | exact⟨h.1,Qrn h.2⟩
theorem Q46 (l:List UInt8) (hl:l.length≤9223372036854775807):PCall Tryz.prog 90 [sV l] (.tup [.p (iV (numP l).1),.p (bV (numP l).2)]):=by
 refine PCall.ofCallsG (R :=.tuple #[.int .i64 (numP l).1,.bool (numP l).2]) (by kernel_rfl) (fun _ _=>dtup2 rfl rfl) fun w us _ hs h=>?_
 obtain⟨a,rfl⟩:=us1 hs
 obtain⟨_,h0'⟩:=h 0 _ a rfl rfl
 rw[Qle h0']
 refine(Q3q ⟨l.toArray⟩ (by show l.toArray.size≤9223372036854775807; simpa using hl) w).mono fun e w' h=>?_
 exact⟨h.1,Qrn h.2.symm⟩
end Go.Proofs.YtagokkpnfceidaaGreatDoor
end

section
namespace Go.Proofs.YtagokkpnfceidaaGreatDoor
open Go.RowKit
theorem Q47 (p:Value) (w:World) :
  Calls Tryz.prog 36 #[p,.bool true] w fun e w' => e = .returned (.tuple #[])∧w' = w:=by
 go_enter Tryz.func36,Tryz.ntmps36
 go_wp2
 exact bodyPost_end (results_none rfl _ _ _) rfl ⟨rfl,rfl⟩
theorem Q3s (p:Value) (w:World) :
  Calls Tryz.prog 36 #[p,.bool false] w fun e w' => e = .panicked panCH∧w' = w:=by
 go_enter Tryz.func36,Tryz.ntmps36
 go_wp2
 exact⟨rfl,rfl,rfl⟩
theorem Qwf {E:Value→Ending} {r:D} {R:Value} (b:Bool) (x:D) (s:S) (hr:∀ G w,DRel G w r R)
  (h:∀ p w,Calls Tryz.prog 36 #[p,.bool b] w fun e w' => e=E R∧w' = w):CallX E Tryz.prog 36 [x,.p (bV b)] s r s:=by
 refine⟨by kernel_rfl,fun G w us hI hs hrel=>?_⟩
 obtain⟨p,q,rfl⟩:=us2 hs
 have h1:=hrel 1 _ q rfl rfl
 have hq:q = .bool b:=by cases h1 with | p _ _ h1=>cases h1; rfl
 subst hq
 exact(h p w).mono fun e w' ⟨he,hw⟩=>by
  subst hw
  exact⟨R,G,he,.refl G _,hI,hr G _⟩
def mustO (b:Bool):Unit⊕Unit:=if b=true then .inl () else .inr ()
theorem Q7a (b:Bool) (x:D) (s:S) (t:Unit→D) (ht:t () = .tup []) (o:Unit⊕Unit) (ho:mustO b=o):CallS Tryz.prog 36 [x,.p (bV b)] s t (fun _=>s) (fun _=>s) o:=by
 subst ho
 cases b with
 | true =>
  show CallOK _ _ _ _ (t ()) _
  rw[ht]
  exact Qwf true x s (fun G w =>.tup [] #[] rfl (fun j c u hc=>by simp at hc)) Q47
 | false =>
  exact Qwf false x s (R:=undef) (fun G w =>.undef) Q3s
end Go.Proofs.YtagokkpnfceidaaGreatDoor
end

section
namespace Go.Proofs.YtagokkpnfceidaaGreatDoor
open Go.RowKit
section
variable {P:Program} {tb:Tbl}
theorem Q2o (hT:TblOk P tb) {fn:Func} {C:Nat→Nat→Prop} {w w' : World} {G' : Gh} {σ' : St} {a' : Act} (hE:Ex (0,0) ⟨fun b o=>C b o∧b<w.heap.size,[],[]⟩ w G' w') (hR' : Rel fn.ntmps G' σ' a' w') {r:D}
  (hq:resAll tb σ' fn.results.toList fun ds=>match retD ds with | some d=>LeD d r | none=>False) :
  ∃ v,(results fn a'.tmps).run P w' = .ok v w' ∧ DRel ⟨fun b o=>C b o∨w.heap.size≤b,[],[]⟩ w' r v∧Below w.heap.size w w' := by
 obtain⟨ds,us', h1,h2,h3,h4⟩:=Qgp hT hR' _ _ hq
 split at h4
 ·rename_i d hd
  obtain⟨k1,k2⟩:=Qww h2 h3 hd
  refine⟨if h:us'.toArray.size=1 then us'.toArray[0] else .tuple us'.toArray,?_,DRel.le ?_ h4,⟨hE.ext.os,hE.ext.tape,hE.ext.output,hE.ext.size,fun k hk=>hE.ext.old k hk (by simp) (by simp)⟩⟩
  ·unfold results
   rw[Sem.run_bind,Array.mapM_eq_mapM_toList,Sem.run_map]
   erw [h1]
   rfl
  ·have hcom:∀ b o,G'.com b o→C b o∨w.heap.size≤b:=fun b o hc=>by
    rcases hE.ext.new b o hc with h | h | h | ⟨T,h,_⟩
    ·exact .inl h.1
    ·exact .inr h
    ·simp at h
    ·simp at h
   rcases k2 with ⟨x,rfl⟩ | ⟨xs,rfl⟩
   ·generalize (if h:us'.toArray.size=1 then us'.toArray[0] else Value.tuple us'.toArray)=q at k1
    cases k1 with
    | p _ _ k1=>exact .p _ _ (k1.mono (Nat.le_refl _) fun b o u h1 h2=>⟨hcom b o h1,h2⟩)
   ·generalize (if h:us'.toArray.size=1 then us'.toArray[0] else Value.tuple us'.toArray)=q at k1
    cases k1 with
    | tup _ vs l1 l2 =>
     refine .tup _ _ l1 (fun j c u hc hu=>?_)
     have:=l2 j c u hc hu
     rw[List.getElem?_map] at hc
     obtain⟨x,-,rfl⟩:=Option.map_eq_some_iff.1 hc
     cases this with
     | p _ _ k1=>exact .p _ _ (k1.mono (Nat.le_refl _) fun b o u h1 h2=>⟨hcom b o h1,h2⟩)
 ·exact h4.elim
theorem PCall.ofW {f:FuncId} {fn:Func} {c:Code} (hf:P.funcs[f]? = some fn) (hb:fn.body=some c) (hn:isFn P f=true) {args:List V} (hN:args.length≤fn.ntmps) {r:D}
  (h:∀ (C:Nat→Nat→Prop) (w:World) (a:Act) (R:Ending→World→Prop),(∀ v w', DRel ⟨fun b o=>C b o∨w.heap.size≤b,[],[]⟩ w' r v→Below w.heap.size w w' → R (.returned v) w') →
   Rel fn.ntmps ⟨fun b o=>C b o∧b<w.heap.size,[],[]⟩ ⟨args0 args 0,⟨[],[]⟩⟩ a w→a.defers=[]→c.wpIn Fence.wide 0 P (bodyPostM Fence.wide 0 P fn R) a w):PCall P f args r:=by
 refine⟨hn,fun C w us hgl hl hrel=>?_⟩
 have hR:Rel fn.ntmps ⟨fun b o=>C b o∧b<w.heap.size,[],[]⟩ ⟨args0 args 0,⟨[],[]⟩⟩ { tmps:=us++Array.replicate (fn.ntmps-us.size) undef,defers:=[] } w:=by
  refine⟨⟨fun b o h=>⟨h.2,by simp,by simp⟩,rfl,by simp,fun i b cs h=>by simp at h,rfl,fun t T b h=>by simp at h,fun T h=>by simp at h,hgl.mono fun b o u h1 h2=>⟨⟨h1,cellLt h2⟩,h2⟩⟩,fun t d hd=>?_,by simp; omega⟩
  obtain⟨x,h1,h2,rfl⟩:=Qoi args 0 t d hd
  have hlt:t<args.length:=(List.getElem?_eq_some_iff.1 h1).1
  have hlt2:t<us.size:=by omega
  refine⟨by simp; omega,.p x _ (DRel.lt ?_)⟩
  refine hrel t x _ h1 ?_
  simp only[Array.getD_eq_getD_getElem?,Array.getElem?_append_left hlt2,Array.getElem?_eq_getElem hlt2,Option.getD_some]
 exact callsIn_wide.1 (callsIn_of_wp_marks (F:=Fence.wide) (n:=0) hf hb trivial (h C w _ _ (fun v w' h1 h2=>⟨v,rfl,h1,h2⟩) hR rfl))
theorem Qqj {fn:Func} {a:Act} {G:Gh} {σ : St} {R:Ending→World→Prop} {db:List Deferred} {u:FrameMode} (hu:u ≠ .run) {lo:Nat} {B:Nat×Nat} {G0:Gh} {w0:World}
  (h:∀ w', Ex B G0 w0 G w' → Rel fn.ntmps G σ a w' → LeavesInM Fence.wide 0 P fn a.tmps R db u w') {w:World} (hF:Fr none ⟨lo,db⟩ G a w) (hlo:w0.heap.size≤lo) (hE:Ex B G0 w0 G w) (hR:Rel fn.ntmps G σ a w):LeavesInM Fence.wide 0 P fn a.tmps R a.defers u w:=by
 have key:∀ (Ds:List Nat) (w' : World),Ds.Nodup→Ex B G0 w0 G w' → Rel fn.ntmps G σ a w' → (∀ b ∈ Ds,lo≤b∧w'.heap[b]? = some (.deferred (some []))∧b ∉ G.name∧∀ T ∈ G.tok,¬ T.has b)→LeavesInM Fence.wide 0 P fn a.tmps R (Ds.map markOf++db) u w' := by
  intro Ds
  induction Ds with
  | nil=>exact fun w' _ hE hR' _=>h w' hE hR'
  | cons b Ds ih =>
   intro w' hnd hE hR' hD
   obtain⟨d1,d2,d3,d4⟩:=hD b (by simp)
   have hnb:¬ G.has b:=fun hh=>hh.elim d3 fun⟨T,hT,ht⟩=>d4 T hT ht
   have hk:Kept G.has G.com w' (w'.putObj b (.deferred none)):=Qgb _ d2 (Qpo d2) hnb
   refine⟨hu,.inl ⟨b,_,rfl,run_takeDeferred d2,ih _ (List.nodup_cons.1 hnd).2 (hE.kept hk fun i hi=>World.putObj_heap_other (by omega)) (hR'.kept hk) fun i hi=>?_⟩⟩
   obtain⟨k1,k2,k3⟩:=hD i (by simp[hi])
   refine⟨k1,?_,k3⟩
   rw[World.putObj_heap_other (fun(e:i=b)=>(List.nodup_cons.1 hnd).1 (e ▸ hi))]
   exact k2
 obtain⟨Ds,m1,m2,m3⟩:=hF.marks
 have hl:=key Ds w m2 hE hR m3
 rw[← m1] at hl
 exact hl
def isReg (hid:Nat):Code→Bool
 | .region id _ _=>id==hid
 | _=>false
def bwpH (B:Nat×Nat) (P:Program) (tb:Tbl) (N:Nat) (lv:List (Nat×List Nat)) (hid:Nat):Code→(Exit→St→Prop)→(St→Prop)→St→Prop
 | .seq x y,Q,K,σ => match isReg hid x with
  | true=>K σ
  | false=>bwp B P tb N lv x (fun e σ' => match e with | .normal=>bwpH B P tb N lv hid y Q K σ' | e=>Q e σ') σ
 | c,Q,_,σ => bwp B P tb N lv c Q σ
def holeC (hid:Nat):Code→Code
 | .seq x y=>match isReg hid x with
  | true =>.seq x y
  | false=>holeC hid y
 | c=>c
theorem Q3t (hm:P.follows .mixedOrders=true) (hT:TblOk P tb) {B:Nat×Nat} {N:Nat} {lv:List (Nat×List Nat)} {hid:Nat} {Post:Exit→Act→World→Prop} {rd:Option Nat} {lo:Lo} {G0:Gh} {w0:World} {Q:Exit→St→Prop} {K:St→Prop}
  (hQ:∀ e G' σ' a' w', Ex B G0 w0 G' w' → Rel N G' σ' a' w' → Fr rd lo G' a' w' → Q e σ' → Post e a' w') :
  ∀ (c:Code) (σ : St) (G:Gh) (a:Act) (w:World),bwpH B P tb N lv hid c Q K σ → Ex B G0 w0 G w→Rel N G σ a w→Fr rd lo G a w →
   (∀ G' σ' a' w', Ex B G0 w0 G' w' → Rel N G' σ' a' w' → Fr rd lo G' a' w' → K σ' → (holeC hid c).wpIn (FW rd) 0 P Post a' w')→c.wpIn (FW rd) 0 P Post a w:=by
 have base:∀ (c:Code) (σ : St) (G:Gh) (a:Act) (w:World),bwp B P tb N lv c Q σ → Ex B G0 w0 G w→Rel N G σ a w→Fr rd lo G a w→c.wpIn (FW rd) 0 P Post a w:=fun c σ G a w h hE hR hF =>
  wpIn_mono ((Qam hm hT c _ _ h).out rd lo G a w hR hF) fun e a' w' ⟨G', σ', e1,r1,f1,q1⟩=>hQ e G' σ' a' w' (hE.trans e1) r1 f1 q1
 intro c
 induction c with
 | seq x y ihx ihy =>
  intro σ G a w h hE hR hF hK
  unfold bwpH at h
  unfold holeC at hK
  cases hx:isReg hid x with
  | true =>
   rw[hx] at h hK
   exact hK G σ a w hE hR hF h
  | false =>
   rw[hx] at h hK
   refine wpIn_seq (wpIn_mono ((Qam hm hT x _ _ h).out rd lo G a w hR hF) fun e a' w' ⟨G', σ', e1,r1,f1,q1⟩=>?_)
   cases e with
   | normal=>exact ihy σ' G' a' w' q1 (hE.trans e1) r1 f1 hK
   | exit id=>exact hQ _ G' σ' a' w' (hE.trans e1) r1 f1 q1
   | goto l=>exact hQ _ G' σ' a' w' (hE.trans e1) r1 f1 q1
   | ret=>exact hQ _ G' σ' a' w' (hE.trans e1) r1 f1 q1
   | panic ch=>exact hQ _ G' σ' a' w' (hE.trans e1) r1 f1 q1
   | outgrown=>exact hQ _ G' σ' a' w' (hE.trans e1) r1 f1 q1
 | _=>intro σ G a w h hE hR hF hK; exact base _ σ G a w h hE hR hF
theorem Q3u (hT:TblOk P tb) {B:Nat×Nat} {N id:Nat} {ops:Array Oper} {Q:Exit→St→Prop} {σ : St} (h:bwp B P tb N [] (.region id ops false) Q σ) {rd:Option Nat} {G:Gh} {a:Act} {w:World} (hR:Rel N G σ a w) :
  (Code.region id ops false).wpIn (FW rd) 0 P (fun e a' w' => ∃ G' σ', Ex B G w G' w' ∧ Rel N G' σ' a' w' ∧ a'.defers=a.defers∧Q e σ') a w:=by
 have h:rwp P tb N [] id ops false (Q .normal) σ := h
 unfold rwp at h
 rw[Qwv] at h
 have h:bOps true P tb N ops.toList (List.range ops.toList.length) σ fun σ' => Q .normal (keep none σ'):=h
 have hops:ops.toList.toArray=ops:=by simp
 refine wpIn_region ?_
 have:=Qrg hT (rd:=rd) (ops:=ops.toList) (Q:=fun e a' w' => ∃ G' σ', Ex B G w G' w' ∧ Rel N G' σ' a' w' ∧ a'.defers=a.defers∧Q e σ') (G0:=G) (w0:=w) (ds:=a.defers) (fun a' w' G' σ' hE hR' hd hK=>⟨G', _,hE,Qfk hR' _,hd,hK⟩) _ σ a w G (.refl B G w) hR rfl h
 rw[hops] at this
 simpa using this
theorem Qrp {G:Gh} {w:World} {a:Act}:EnvRel G w [] a:=fun t d h=>by simp at h
theorem Qcz {G:Gh} {w:World} {a:Act} {t:Nat} {d:D} {env:List (Nat×D)} (h:t<a.tmps.size∧DRel G w d (a.tmps.getD t undef)) (k:EnvRel G w env a):EnvRel G w ((t,d)::env) a:=fun t' d' hl=>by
 rw[List.lookup_cons] at hl
 split at hl
 ·rename_i he
  cases hl
  have:t' = t:=by simpa using he
  subst this
  exact h
 ·exact k t' d' hl
end
end Go.Proofs.YtagokkpnfceidaaGreatDoor
end

section
namespace Go.Proofs.YtagokkpnfceidaaGreatDoor
open Go.RowKit
def lastCode:Code→Code
 | .seq _ y=>lastCode y
 | c=>c
theorem Q1c (u0 u1 u2 u3 u4:Value) (w:World) {R:Ending→FrameMode→World→Prop} (h:R (.returned (.tuple #[])) .returning w) :
  CallsDIn Fence.wide 0 Tryz.prog 15 #[u0,u1,u2,u3,u4] .returning w R:=by
 refine callsDIn_of_wpSIn Tryz.func15 rfl trivial fun c₀ cs hu=>?_
 apply wpSIn_seq
 apply wpSIn_region
 simp[wpOpsSIn,go_sem,recoverD,hu,Tryz.ntmps15,Exit.thenS]
 apply wpSIn_seq
 apply wpSIn_seq
 apply wpSIn_region
 simp[wpOpsSIn,go_sem,Exit.thenS]
 refine wpSIn_cond (t:=true) (by simp[Act.eval,Array.replicate]) ?_
 simp only[if_true]
 refine wpSIn_of_wpIn rfl (wpIn_ret ?_)
 cases c₀
 simp_all [bodyPostS,results,Tryz.results15,Exit.thenS]
theorem Q6j (w:World):(Instr.typeAssert (.iface 47 (.agg #[])) 20 47 true).run Tryz.prog w = .ok (.tuple #[.agg #[],.bool true]) w:=by
 kernel_rfl
theorem Q3v (u0 u1 u2 u3 u4:Value) (w:World) {R:Ending→FrameMode→World→Prop}
  (h5:∀ (a:Act) (w' : World),a.tmps.size=22→a.tmps[0]? = some u0→a.tmps[1]? = some u1→a.tmps[2]? = some u2→a.tmps[3]? = some u3→a.tmps[4]? = some u4→a.defers=[]→Below w.heap.size w w' →
   (lastCode (Tryz.f15.body.getD .skip)).wpIn Fence.wide 0 Tryz.prog (fun e a2 w2=>e = .normal∧a2.defers=[]∧R (.returned (.tuple #[])) (.panicking [{ v :=.iface 47 (.agg #[]),recovered:=true }]) w2) a w') :
  CallsDIn Fence.wide 0 Tryz.prog 15 #[u0,u1,u2,u3,u4] (.panicking panCH) w R:=by
 refine callsDIn_of_wpSIn Tryz.func15 rfl trivial fun c₀ cs hu=>?_
 apply wpSIn_seq
 apply wpSIn_region
 simp[wpOpsSIn,go_sem,recoverD,hu,panCH,Tryz.ntmps15,Exit.thenS]
 apply wpSIn_seq
 apply wpSIn_seq
 apply wpSIn_region
 simp[wpOpsSIn,go_sem,Exit.thenS]
 refine wpSIn_cond (t:=false) (by simp[Act.eval,Array.replicate]) ?_
 simp only[Bool.false_eq_true,if_false]
 refine wpSIn_of_wpIn rfl (wpIn_skip ?_)
 simp only[Exit.thenS]
 apply wpSIn_seq
 apply wpSIn_seq
 apply wpSIn_region
 simp[wpOpsSIn,go_sem,Exit.thenS,Q6j]
 apply wpSIn_seq
 apply wpSIn_region
 simp[wpOpsSIn,go_sem,Exit.thenS]
 refine wpSIn_cond (t:=false) (by simp[Act.eval,Array.replicate]) ?_
 simp only[Bool.false_eq_true,if_false]
 refine wpSIn_of_wpIn rfl (wpIn_skip ?_)
 simp only[Exit.thenS]
 refine wpSIn_of_wpIn rfl (wpIn_mono (h5 _ _ ?_ ?_ ?_ ?_ ?_ ?_ rfl ?_) ?_)
 ·simp
 ·simp
 ·simp
 ·simp
 ·simp
 ·simp
 ·exact(Below.refl _ w).alloc (Nat.le_refl _) _
 rintro e a2 w2 ⟨rfl,hd,hr⟩
 refine⟨hd,.panicking [{ v :=.iface 47 (.agg #[]),recovered:=true }],rfl,.tuple #[],?_,hr⟩
 exact results_none rfl _ _ _
def seqR:Code→Code
 | .seq _ y=>y
 | c=>c
theorem Q1d (a:Act) (w:World) (hs:a.tmps.size=35) {Post:Exit→Act→World→Prop} (h:(seqR (holeC 5 (Tryz.f7.body.getD .skip))).wpIn Fence.wide 0 Tryz.prog Post
  { tmps:=a.tmps.setIfInBounds 20 (.func (.func 15) #[] #[a.tmps.getD 6 undef,a.tmps.getD 1 undef,a.tmps.getD 2 undef,a.tmps.getD 3 undef,a.tmps.getD 4 undef]),defers:={ target :=.fn (.func 15) #[a.tmps.getD 6 undef,a.tmps.getD 1 undef,a.tmps.getD 2 undef,a.tmps.getD 3 undef,a.tmps.getD 4 undef],args := #[] }::a.defers } w) :
  (holeC 5 (Tryz.f7.body.getD .skip)).wpIn Fence.wide 0 Tryz.prog Post a w:=by
 refine wpIn_seq (wpIn_region ?_)
 obtain⟨X,hX⟩:∃ X,X=seqR (holeC 5 (Tryz.f7.body.getD .skip)):=⟨_,rfl⟩
 rw[← hX] at h
 simp[hs] at h
 rw[hX] at h
 simp[wpOpsIn,go_sem,hs]
 exact h
noncomputable def parQ (r:D) (e:Exit) (τ : St):Prop:=match e with
 | .ret=>resAll tb τ Tryz.f7.results.toList fun ds=>match retD ds with | some d=>LeD d r | none=>False
 | .panic ch=>ch=panCH ∧ τ.env.lookup 2=some (.ptr 1 0) ∧ τ.env.lookup 3=some (.ptr 2 0) ∧ τ.env.lookup 4=some (.ptr 3 0) ∧ τ.s.heap.length=6 ∧ τ.s.live.length=0 ∧
  bwp (6,0) Tryz.prog tb 22 [] (lastCode (Tryz.f15.body.getD .skip)) (fun e υ => e = .normal∧resAll tb ⟨[(2,.ptr 1 0),(3,.ptr 2 0),(4,.ptr 3 0)],υ.s⟩ Tryz.f7.results.toList fun ds=>match retD ds with | some d=>LeD d r | none=>False)
   ⟨[(0,.ptr 5 0),(1,.ptr 0 0),(2,.ptr 1 0),(3,.ptr 2 0),(4,.ptr 3 0)],τ.s⟩
 | _=>False
noncomputable def parK (lv:List (Nat×List Nat)) (r:D) (σ : St):Prop :=
 σ.env.lookup 6=some (.ptr 5 0) ∧ σ.env.lookup 1=some (.ptr 0 0) ∧ σ.env.lookup 2=some (.ptr 1 0) ∧ σ.env.lookup 3=some (.ptr 2 0) ∧ σ.env.lookup 4=some (.ptr 3 0) ∧ σ.s.heap.length=6 ∧ σ.s.live.length=0 ∧
  bwp (6,0) Tryz.prog tb 35 lv (seqR (holeC 5 (Tryz.f7.body.getD .skip))) (parQ r) ⟨[(2,.ptr 1 0),(3,.ptr 2 0),(4,.ptr 3 0),(6,.ptr 5 0)],σ.s⟩
theorem Q48 {p0:List UInt8} {r:D} {lv:List (Nat×List Nat)}
  (h:bwpH (0,0) Tryz.prog tb 35 lv 5 (Tryz.f7.body.getD .skip) (retQ tb Tryz.f7.results.toList fun d=>LeD d r) (parK lv r) ⟨args0 [sV p0] 0,⟨[],[]⟩⟩):PCall Tryz.prog 7 [sV p0] r:=by
 refine PCall.ofW Tryz.func7 rfl (by kernel_rfl) (Nat.le_of_ble_eq_true rfl) fun C w a R hRR hR hd=>?_
 refine Q3t (rd:=none) (lo:=⟨w.heap.size,[]⟩) (w0:=w) mixed tbOk (Q:=retQ tb Tryz.f7.results.toList fun d=>LeD d r) (K:=parK lv r) (fun e G' σ' a' w' hE hR' hF' hq=>?_) _ _ _ a w h (.refl _ _ w) hR (.none hd) ?_
 ·have key:∀ (hq:resAll tb σ' Tryz.f7.results.toList fun ds=>match retD ds with | some d=>LeD d r | none=>False),LeavesInM Fence.wide 0 Tryz.prog Tryz.f7 a'.tmps R a'.defers .returning w' := fun hq =>
   Qqj (u :=.returning) (by simp) (fun w3 hE3 hR3=>by
    obtain⟨v,h1,h2,h3⟩:=Q2o tbOk hE3 hR3 hq
    exact⟨v,h1,hRR v w3 h2 h3⟩) hF' (Nat.le_refl _) hE hR'
  cases e with
  | normal=>exact key hq
  | ret=>exact key hq
  | _=>exact hq.elim
 ·rintro G1 σ1 a1 w1 hE1 hR1 hF1 ⟨k6,k1,k2,k3,k4,hl,hv,hb⟩
  have v6:=hR1.env 6 _ k6
  have v1:=hR1.env 1 _ k1
  have v2:=hR1.env 2 _ k2
  have v3:=hR1.env 3 _ k3
  have v4:=hR1.env 4 _ k4
  refine Q1d a1 w1 hR1.size ?_
  obtain⟨Ds0,m1,m2,m3⟩:=hF1.marks
  rw[List.append_nil] at m1
  rw[m1]
  generalize hu6:a1.tmps.getD 6 undef=u6 at v6 ⊢
  generalize hu1:a1.tmps.getD 1 undef=u1 at v1 ⊢
  generalize hu2:a1.tmps.getD 2 undef=u2 at v2 ⊢
  generalize hu3:a1.tmps.getD 3 undef=u3 at v3 ⊢
  generalize hu4:a1.tmps.getD 4 undef=u4 at v4 ⊢
  have hn1:G1.name.length=6:=hR1.inv.names.trans hl
  have ht1:G1.tok.length=0:=by have:=congrArg List.length hR1.inv.live; simp at this; omega
  obtain⟨d,hdd⟩:∃ d:Deferred,d={ target :=.fn (.func 15) #[u6,u1,u2,u3,u4],args := #[] }:=⟨_,rfl⟩
  rw[← hdd]
  generalize hfv:(Value.func (Fn.func 15) #[] #[u6,u1,u2,u3,u4])=fv
  have ek:∀ t,t≠20→(a1.tmps.setIfInBounds 20 fv).getD t undef=a1.tmps.getD t undef:=fun t ht=>by
   simp only[Array.getD_eq_getD_getElem?,Array.getElem?_setIfInBounds,if_neg (fun e:20=t=>ht e.symm)]
  have es:∀ {t:Nat},t<a1.tmps.size→t<(a1.tmps.setIfInBounds 20 fv).size:=fun h=>by simpa using h
  have hRr:Rel Tryz.f7.ntmps G1 ⟨[(2,.ptr 1 0),(3,.ptr 2 0),(4,.ptr 3 0),(6,.ptr 5 0)],σ1.s⟩ { tmps:=a1.tmps.setIfInBounds 20 fv,defers:=d::Ds0.map markOf } w1 :=
   ⟨hR1.inv,Qcz ⟨es v2.1,by rw[ek 2 (by decide),hu2]; exact v2.2⟩ (Qcz ⟨es v3.1,by rw[ek 3 (by decide),hu3]; exact v3.2⟩ (Qcz ⟨es v4.1,by rw[ek 4 (by decide),hu4]; exact v4.2⟩ (Qcz ⟨es v6.1,by rw[ek 6 (by decide),hu6]; exact v6.2⟩ Qrp))),by simpa using hR1.size⟩
  have hFr:Fr none ⟨w1.heap.size,d::Ds0.map markOf⟩ G1 { tmps:=a1.tmps.setIfInBounds 20 fv,defers:=d::Ds0.map markOf } w1:=⟨⟨[],rfl,List.nodup_nil,fun _ h=>(nomatch h)⟩,fun _ h=>(nomatch h),Nat.le_refl _⟩
  refine wpIn_mono ((Qam mixed tbOk _ _ _ hb).out none ⟨w1.heap.size,d::Ds0.map markOf⟩ G1 _ w1 hRr hFr) ?_
  rintro e a2 w2 ⟨G2,σ2,hE2,hR2,hF2,hq2⟩
  have fin:∀ (G4:Gh) (τ : St) (w4:World),Ex (6,0) G1 w1 G4 w4→Rel Tryz.f7.ntmps G4 τ a2 w4→(resAll tb τ Tryz.f7.results.toList fun ds=>match retD ds with | some d=>LeD d r | none=>False) →
    LeavesInM Fence.wide 0 Tryz.prog Tryz.f7 a2.tmps R (Ds0.map markOf) .returning w4:=fun G4 τ w4 hE4 hR4 hq=>by
   refine Qqj (a:={ a2 with defers:=Ds0.map markOf }) (lo:=w.heap.size) (db:=[]) (σ := τ) (u :=.returning) (B:=(0,0)) (w0:=w) (by simp) (fun w5 hE5 hR5=>?_) ⟨⟨Ds0,(List.append_nil _).symm,m2,fun b hb=>⟨(m3 b hb).1,hE4.ext.stays (m3 b hb).2.1 (m3 b hb).2.2.1 (m3 b hb).2.2.2⟩⟩,fun _ h=>(nomatch h),Nat.le_trans hF1.size hE4.ext.size⟩ (Nat.le_refl _) (hE1.trans (hE4.le (Nat.zero_le _) (Nat.zero_le _))) ⟨hR4.inv,hR4.env,hR4.size⟩
   obtain⟨v,h1,h2,h3⟩:=Q2o tbOk hE5 hR5 hq
   exact⟨v,h1,hRR v w5 h2 h3⟩
  have inv0:∀ w3:World,(invoke d.target d.args).run Tryz.prog w3 = .ok (.enter 15 #[u6,u1,u2,u3,u4]) w3:=fun w3=>by subst hdd; simp[go_sem]
  cases e with
  | ret =>
   refine Qqj (u :=.returning) (B:=(6,0)) (by simp) (fun w3 hE3 hR3=>?_) hF2 (Nat.le_refl _) hE2 hR2
   refine⟨by simp,.inr ⟨fun h=>(nomatch h),_,_,15,#[u6,u1,u2,u3,u4],by rw[hdd],inv0 w3,fun _ _=>trivial,?_⟩⟩
   exact Q1c u6 u1 u2 u3 u4 w3 (fin G2 σ2 w3 hE3 hR3 hq2)
  | panic ch =>
   obtain⟨rfl,l2,l3,l4,hl2,hv2,hc⟩:=hq2
   refine Qqj (u :=.panicking panCH) (B:=(6,0)) (by simp) (fun w3 hE3 hR3=>?_) hF2 (Nat.le_refl _) hE2 hR2
   refine⟨by simp,.inr ⟨fun h=>(nomatch h),_,_,15,#[u6,u1,u2,u3,u4],by rw[hdd],inv0 w3,fun _ _=>trivial,?_⟩⟩
   refine Q3v u6 u1 u2 u3 u4 w3 fun a w' hsz t0 t1 t2 t3 t4 hd' hbel=>?_
   have hI3:=hR3.inv
   have hk3:=Qrj hI3 hbel
   have hEb:Ex (6,0) G2 w3 G2 w' := Q2f hI3 hbel
   have hst:Stp G1 w1 G2 w' := (hE3.trans hEb).stp (by omega) (by omega)
   have hn2:G2.name.length=6:=hI3.names.trans hl2
   have ht2:G2.tok.length=0:=by have:=congrArg List.length hI3.live; simp at this; omega
   have eg:∀ {t:Nat} {u:Value},a.tmps[t]? = some u→a.tmps.getD t undef=u:=fun h=>by simp only[Array.getD_eq_getD_getElem?,h,Option.getD_some]
   have hRc:Rel 22 G2 ⟨[(0,.ptr 5 0),(1,.ptr 0 0),(2,.ptr 1 0),(3,.ptr 2 0),(4,.ptr 3 0)],σ2.s⟩ a w' :=
    ⟨hI3.kept hk3,Qcz ⟨by omega,by rw[eg t0]; exact v6.2.mono hst⟩ (Qcz ⟨by omega,by rw[eg t1]; exact v1.2.mono hst⟩ (Qcz ⟨by omega,by rw[eg t2]; exact v2.2.mono hst⟩ (Qcz ⟨by omega,by rw[eg t3]; exact v3.2.mono hst⟩ (Qcz ⟨by omega,by rw[eg t4]; exact v4.2.mono hst⟩ Qrp)))),hsz⟩
   refine wpIn_mono (Q3u (rd:=none) tbOk hc hRc) ?_
   rintro e a3 w4 ⟨G4,σ4,hE4,hR4,hd4,rfl,hq4⟩
   refine⟨rfl,hd4.trans hd', ?_⟩
   have hE5:Ex (6,0) G2 w3 G4 w4:=hEb.trans hE4
   have hst5:Stp G2 w3 G4 w4:=hE5.stp (by omega) (by omega)
   have x2:=hR3.env 2 _ l2
   have x3:=hR3.env 3 _ l3
   have x4:=hR3.env 4 _ l4
   exact fin G4 ⟨[(2,.ptr 1 0),(3,.ptr 2 0),(4,.ptr 3 0)],σ4.s⟩ w4 (hE3.trans hE5) ⟨hR4.inv,Qcz ⟨x2.1,x2.2.mono hst5⟩ (Qcz ⟨x3.1,x3.2.mono hst5⟩ (Qcz ⟨x4.1,x4.2.mono hst5⟩ Qrp)),hR3.size⟩ hq4
  | _=>exact hq2.elim
end Go.Proofs.YtagokkpnfceidaaGreatDoor
end
