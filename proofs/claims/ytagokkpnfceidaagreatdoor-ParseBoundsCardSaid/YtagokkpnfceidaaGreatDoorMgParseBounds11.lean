/- The proof's texts, part 11 of 12: the walks by a logic in which data are by value, the plain laws, and at the end the law, for every input. -/
import Derived.Test.YtagokkpnfceidaaGreatDoorMgParseBounds10
import Derived.ProofKit

section
namespace Go.Proofs.YtagokkpnfceidaaGreatDoor
open Go.RowKit
set_option linter.unusedSimpArgs false
set_option linter.unusedVariables false
section
variable {L:List Qac} (hL:Toks L)
include hL
theorem rrLoopT (i o:Bool) (v:List Qaa) (p:Int):Qa4 i o L v p true=some (.inl (v,p,true)):=by
 have _:=hL; rw[Qa4]; rfl
theorem rrBlkT (i o:Bool) (p:Int):Qas i o L p true=some ([],p,true):=by
 rw[Qas,rrLoopT hL]; rfl
theorem rrActT {l:List Qac} (h:l <:+ L):∃ x,Qct L (pos L l) true=some (x,pos L l,true):=by
 rw[Qct]
 simp only[rrWordR hL h,Qad,Bool.not_true,Bool.false_and,Bool.false_eq_true,if_false,rrExprT hL h,rrCloseT hL h]
 exact⟨_,rfl⟩
theorem rrClosed {l:List Qac} (h:l <:+ L):match closedR l with
  | .ok x l2=>∃ l1,Qat L (pos L l) false=some (x,pos L l1,false)∧Qa3 L (pos L l1) false=some (pos L l2,false)
  | .bad l2=>∃ x q b,Qat L (pos L l) false=some (x,q,b)∧Qa3 L q b=some (pos L l2,true):=by
 have he:=rrEx hL h
 unfold closedR
 have s1:=Qiy (l.length+1) l
 cases hx:ex20 l with
 | bad l1 =>
  rw[hx] at he
  unfold ex20 at hx
  rw[hx] at s1
  obtain⟨x,he⟩:=he
  exact⟨x,_,_,he,rrCloseT hL (List.IsSuffix.trans s1 h)⟩
 | ok x l1 =>
  rw[hx] at he
  unfold ex20 at hx
  rw[hx] at s1
  have he:Qat L (pos L l) false=some (x,pos L l1,false):=he
  have hc:=rrCloseF hL (s1.1.trans h)
  simp only[Rs.bind]
  cases hw:want 3 l1 with
  | ok t l2=>rw[hw] at hc; exact⟨l1,he,hc⟩
  | bad l2=>rw[hw] at hc; exact⟨x,_,_,he,hc⟩
def RB (L:List Qac) (n:Nat) (B:Bool→Bool→List Qac→Rs (List Qaa)):Prop:=∀ i o l,l <:+ L→l.length<n→RefIs L (Qas i o L (pos L l) false) (B i o l)
theorem rrAct {n:Nat} {B:Bool→Bool→List Qac→Rs (List Qaa)} (hB:RB L n B) (hS:∀ i o l,Suf0 l (B i o l)) {l:List Qac} (h:l <:+ L) (hn:l.length≤n):RefIs L (Qct L (pos L l) false) (actR B l):=by
 rw[Qct]
 simp only[rrWordR hL h,Qad,Bool.not_false,Bool.true_and]
 unfold actR
 by_cases w1:isW wIf l=true
 ·have t1:=Qa8 h
  have n1:=Qb8 (Qd2 w1)
  rw[if_pos w1,if_pos w1,rrTakeOk hL h (Qd2 w1),Qad]
  have hc:=rrClosed hL t1
  have s1:=Qdq l.tail
  cases hx:closedR l.tail with
  | bad l2 =>
   rw[hx] at hc s1
   have t2:l2 <:+ L:=List.IsSuffix.trans s1 t1
   obtain⟨x,q,b,e1,e2⟩:=hc
   simp only[e1,Qad,e2,rrBlkT hL,rrAheadR hL t2,Bool.not_true,Bool.false_and,Bool.false_eq_true,if_false,rrEndT hL t2,Rs.bind,RefIs]
   exact⟨_,rfl⟩
  | ok x l2 =>
   rw[hx] at hc s1
   obtain⟨l1,e1,e2⟩:=hc
   have t2:l2 <:+ L:=s1.1.trans t1
   have n2:l2.length<n:=by have:=s1.2; omega
   have hb:=hB true true l2 t2 n2
   have s2:=hS true true l2
   simp only[e1,Qad,e2,Rs.bind]
   cases hy:B true true l2 with
   | bad l3 =>
    rw[hy] at hb s2
    obtain⟨y,hb⟩:=hb
    have t3:l3 <:+ L:=List.IsSuffix.trans s2 t2
    simp only[hb,Qad,rrAheadR hL t3,Bool.not_true,Bool.false_and,Bool.false_eq_true,if_false,rrEndT hL t3,RefIs]
    exact⟨_,rfl⟩
   | ok y l3 =>
    rw[hy] at hb s2
    have hb:Qas true true L (pos L l2) false=some (y,pos L l3,false):=hb
    have t3:l3 <:+ L:=List.IsSuffix.trans s2 t2
    simp only[hb,Qad,rrAheadR hL t3,Bool.not_false,Bool.true_and]
    by_cases ha:ahead wElse l3=true
    ·have ha' : ahead [101,108,115,101] l3=true:=ha
     simp only[ha,ha', if_true,rrEndF hL t3]
     have s3:=Qx9 wElse l3
     cases hz:endW wElse l3 with
     | bad l4 =>
      rw[hz] at s3
      have t4:l4 <:+ L:=List.IsSuffix.trans s3 t3
      have hz' : endW [101,108,115,101] l3 = .bad l4:=hz
      simp only[hz', Qad,rrBlkT hL,rrEndT hL t4,RefIs]
      exact⟨_,rfl⟩
     | ok u l4 =>
      rw[hz] at s3
      have t4:l4 <:+ L:=s3.1.trans t3
      have n4:l4.length<n:=by have:=s3.2; have:=List.IsSuffix.length_le s2; omega
      have hz' : endW [101,108,115,101] l3 = .ok u l4:=hz
      have hb2:=hB true false l4 t4 n4
      have s4:=hS true false l4
      simp only[hz', Qad]
      cases hq:B true false l4 with
      | bad l5 =>
       rw[hq] at hb2 s4
       obtain⟨z,hb2⟩:=hb2
       simp only[hb2,Qad,rrEndT hL (List.IsSuffix.trans s4 t4),RefIs]
       exact⟨_,rfl⟩
      | ok z l5 =>
       rw[hq] at hb2 s4
       have hb2:Qas true false L (pos L l4) false=some (z,pos L l5,false):=hb2
       simp only[hb2,Qad,rrEndF hL (List.IsSuffix.trans s4 t4)]
       cases he:endW wEnd l5 with
       | bad l6 =>
        have he' : endW [101,110,100] l5 = .bad l6:=he
        simp only[he', RefIs]
        exact⟨_,rfl⟩
       | ok u l6 =>
        have he' : endW [101,110,100] l5 = .ok u l6:=he
        simp only[he', RefIs]
    ·have ha' : ¬ ahead [101,108,115,101] l3=true:=ha
     simp only[ha,ha', Bool.false_eq_true,if_false,Qad,rrEndF hL t3]
     cases he:endW wEnd l3 with
     | bad l6 =>
      have he' : endW [101,110,100] l3 = .bad l6:=he
      simp only[he', RefIs]
      exact⟨_,rfl⟩
     | ok u l6 =>
      have he' : endW [101,110,100] l3 = .ok u l6:=he
      simp only[he', RefIs]
 rw[if_neg w1,if_neg w1]
 have hblk:∀ (k:Int) (s:List UInt8) (l2:List Qac),l2 <:+ L→l2.length<n→RefIs L (Qat L (pos L l2) false>>=fun x23 =>
   Qa3 L x23.2.1 x23.2.2>>=fun x24 =>
   Qas true false L x24.1 x24.2>>=fun x25 =>
   Qb7 [101,110,100] L x25.2.1 x25.2.2>>=fun x26 =>
   some ((Qaa.mk k s [] 0 [x23.1] x25.1 []),x26.1,x26.2)) ((closedR l2).bind fun x l3=>(B true false l3).bind fun y l4=>(endW wEnd l4).bind fun _ l5 =>.ok ⟨k,s,[],0,[x],y,[]⟩ l5):=fun k s l2 t2 n2=>by
  have hc:=rrClosed hL t2
  have s1:=Qdq l2
  cases hx:closedR l2 with
  | bad l3 =>
   rw[hx] at hc s1
   have t3:l3 <:+ L:=List.IsSuffix.trans s1 t2
   obtain⟨x,q,b,e1,e2⟩:=hc
   simp only[e1,Qad,e2,rrBlkT hL,rrEndT hL t3,Rs.bind,RefIs]
   exact⟨_,rfl⟩
  | ok x l3 =>
   rw[hx] at hc s1
   obtain⟨l1,e1,e2⟩:=hc
   have t3:l3 <:+ L:=s1.1.trans t2
   have hb:=hB true false l3 t3 (by have:=s1.2; omega)
   have s2:=hS true false l3
   simp only[e1,Qad,e2,Rs.bind]
   cases hy:B true false l3 with
   | bad l4 =>
    rw[hy] at hb s2
    obtain⟨y,hb⟩:=hb
    simp only[hb,Qad,rrEndT hL (List.IsSuffix.trans s2 t3),RefIs]
    exact⟨_,rfl⟩
   | ok y l4 =>
    rw[hy] at hb s2
    have hb:Qas true false L (pos L l3) false=some (y,pos L l4,false):=hb
    simp only[hb,Qad,rrEndF hL (List.IsSuffix.trans s2 t3)]
    cases he:endW wEnd l4 with
    | bad l6 =>
     have he' : endW [101,110,100] l4 = .bad l6:=he
     simp only[he', RefIs]
     exact⟨_,rfl⟩
    | ok u l6 =>
     have he' : endW [101,110,100] l4 = .ok u l6:=he
     simp only[he', RefIs]
 have hbad:∀ (k:Int) (s:List UInt8) (l2:List Qac),l2 <:+ L→∃ z,(Qat L (pos L l2) true>>=fun x23 =>
   Qa3 L x23.2.1 x23.2.2>>=fun x24 =>
   Qas true false L x24.1 x24.2>>=fun x25 =>
   Qb7 [101,110,100] L x25.2.1 x25.2.2>>=fun x26 =>
   some ((Qaa.mk k s [] 0 [x23.1] x25.1 []),x26.1,x26.2):Option (Qaa×Int×Bool))=some (z,pos L l2,true):=fun k s l2 t2=>by
  simp only[rrExprT hL t2,Qad,rrCloseT hL t2,rrBlkT hL,rrEndT hL t2]
  exact⟨_,rfl⟩
 by_cases w2:isW wEach l=true
 ·have w2' : isW [101,97,99,104] l=true:=w2
  have wl:isW [108,101,116] l=false:=by
   cases hh:isW [108,101,116] l with
   | false=>rfl
   | true=>exact absurd (Q1r w2 hh) (by decide)
  have t1:=Qa8 h
  have n1:=Qb8 (Qd2 w2)
  simp only[w2,w2', wl,if_true,Bool.false_eq_true,if_false,Qad,rrTakeOk hL h (Qd2 w2),rrNameF hL t1]
  have s1:=Qer l.tail
  cases hc:nameR l.tail with
  | bad l1 =>
   rw[hc] at s1
   have t2:l1 <:+ L:=List.IsSuffix.trans s1 t1
   simp only[rrWordR hL t2,Qad,Bool.not_true,Bool.false_and,rrTakeNo hL t2,Rs.bind,RefIs,beq_self_eq_true,if_true]
   exact hbad 11 [] l1 t2
  | ok s l1 =>
   rw[hc] at s1
   have t2:l1 <:+ L:=s1.1.trans t1
   simp only[rrWordR hL t2,Qad,Bool.not_false,Bool.true_and,Rs.bind,beq_self_eq_true,if_true]
   have hw:=rrWantW hL t2 wIn
   have s2:=Qq4 wIn l1
   cases hi:wantW wIn l1 with
   | bad l2 =>
    rw[hi] at hw s2
    have hw' : Qah (isW [105,110] l1) L (pos L l1) false=some (Tk0,pos L l2,true):=hw
    simp only[hw', Qad,RefIs]
    exact hbad 11 s l2 (List.IsSuffix.trans s2 t2)
   | ok u l2 =>
    rw[hi] at hw s2
    have hw' : Qah (isW [105,110] l1) L (pos L l1) false=some (hd l1,pos L l2,false):=hw
    simp only[hw', Qad]
    exact hblk 11 s l2 (s2.1.trans t2) (by have:=s2.2; have:=s1.2; omega)
 have w2' : isW [101,97,99,104] l=false:=by simpa using w2
 rw[if_neg w2]
 by_cases w3:isW wLet l=true
 ·have w3' : isW [108,101,116] l=true:=w3
  have t1:=Qa8 h
  have n1:=Qb8 (Qd2 w3)
  have e1:((12:Int)==11)=false:=rfl
  simp only[w3,w3', w2', if_true,Bool.false_eq_true,if_false,Qad,rrTakeOk hL h (Qd2 w3),rrNameF hL t1,e1]
  have s1:=Qer l.tail
  cases hc:nameR l.tail with
  | bad l1 =>
   rw[hc] at s1
   have t2:l1 <:+ L:=List.IsSuffix.trans s1 t1
   simp only[rrIsT hL t2 11 (by decide),Qad,rrTakeNo hL t2,Rs.bind,RefIs]
   exact hbad 12 [] l1 t2
  | ok s l1 =>
   rw[hc] at s1
   have t2:l1 <:+ L:=s1.1.trans t1
   simp only[rrIsF hL t2 11 (by decide),Qad,Rs.bind,rrWant hL t2 11 (by decide)]
   have s2:=Qf8 (k:=11) (by decide) l1
   cases hi:want 11 l1 with
   | bad l2 =>
    rw[hi] at s2
    simp only[RefIs]
    exact hbad 12 s l2 (List.IsSuffix.trans s2 t2)
   | ok u l2 =>
    rw[hi] at s2
    simp only[]
    exact hblk 12 s l2 (s2.1.trans t2) (by have:=s2.2; have:=s1.2; omega)
 have w3' : isW [108,101,116] l=false:=by simpa using w3
 rw[if_neg w3]
 simp only[w2', w3', Bool.false_eq_true,if_false,Qad]
 have hone:∀ (k:Int) (s:List UInt8) (l2:List Qac),l2 <:+ L→RefIs L (Qat L (pos L l2) false>>=fun x31 =>
   Qa3 L x31.2.1 x31.2.2>>=fun x32 =>
   some ((Qaa.mk k s [] 0 [x31.1] [] []),x32.1,x32.2)) ((closedR l2).bind fun x l3 =>.ok ⟨k,s,[],0,[x],[],[]⟩ l3):=fun k s l2 t2=>by
  have hc:=rrClosed hL t2
  cases hx:closedR l2 with
  | bad l3 =>
   rw[hx] at hc
   obtain⟨x,q,b,e1,e2⟩:=hc
   simp only[e1,Qad,e2,Rs.bind,RefIs]
   exact⟨_,rfl⟩
  | ok x l3 =>
   rw[hx] at hc
   obtain⟨l1,e1,e2⟩:=hc
   simp only[e1,Qad,e2,Rs.bind,RefIs]
 by_cases w4:isW wUse l=true
 ·have w4' : isW [117,115,101] l=true:=w4
  have t1:=Qa8 h
  simp only[w4,w4', if_true,rrTakeOk hL h (Qd2 w4),Qad,rrNameF hL t1]
  have s1:=Qer l.tail
  cases hc:nameR l.tail with
  | bad l1 =>
   rw[hc] at s1
   have t2:l1 <:+ L:=List.IsSuffix.trans s1 t1
   simp only[Qad,rrExprT hL t2,rrCloseT hL t2,Rs.bind,RefIs]
   exact⟨_,rfl⟩
  | ok s l1 =>
   rw[hc] at s1
   simp only[Qad,Rs.bind]
   exact hone 13 s l1 (s1.1.trans t1)
 have w4' : isW [117,115,101] l=false:=by simpa using w4
 rw[if_neg w4]
 simp only[w4', Bool.false_eq_true,if_false,Qad]
 exact hone 9 [] l h
def RefL (L:List Qac) (o:Option (((List Qaa)×Int×Bool)⊕((List Qaa)×Int×Bool))) (r:Rs (List Qaa)):Prop:=match r with
 | .ok out l=>o=some (.inl (out,pos L l,false))∨o=some (.inr (out,pos L l,false))
 | .bad l=>∃ v,o=some (.inl (v,pos L l,true))
theorem rrBlock1 {f:Nat} (hl:∀ (i o:Bool) (out:List Qaa) (l:List Qac),l <:+ L→l.length<f→BD out l→RefL L (Qa4 i o L out (pos L l) false) (loopR f i o out l)):RB L f (fun i o l=>loopR f i o [] l):=fun i o l h hn=>by
 have:=hl i o [] l h hn (.nil hL h)
 show RefIs L (Qas i o L (pos L l) false) (loopR f i o [] l)
 rw[Qas]
 cases hx:loopR f i o [] l with
 | ok out l' =>
  rw[hx] at this
  rcases this with e | e
  ·rw[e]; rfl
  ·rw[e]; rfl
 | bad l' =>
  rw[hx] at this
  obtain⟨v,e⟩:=this
  rw[e]
  exact⟨v,rfl⟩
theorem rrLoop:∀ (f:Nat) (i o:Bool) (out:List Qaa) (l:List Qac),l <:+ L→l.length<f→BD out l→RefL L (Qa4 i o L out (pos L l) false) (loopR f i o out l)
 | 0=>fun i o out l h hn _=>absurd hn (by omega)
 | f+1=>fun i o out l h hn hd0=>by
  have ih:=rrLoop f
  rw[Qa4,loopR]
  by_cases hne:l=[]
  ·subst hne
   have e:decide (pos L []<(L.length:Int))=false:=by rw[Qqa]; simp
   simp[e,RefL]
  have e:decide (pos L l<(L.length:Int))=true:=(Qn9 h hne).2.2
  have t1:=Qa8 h
  have n1:=Qb8 hne
  simp only[e,Bool.not_false,if_true,Qad,if_neg hne,rrIsF hL h 1 (by decide)]
  by_cases k1:kd l=1
  ·simp only[k1,decide_true,if_true,rrTakeOk hL h hne,Qad]
   have:=litO out (hd l).Text (fun v=>Qa4 i o L v (pos L l.tail) false) (by have:=hd0.len; omega) (by have:=hd0.txt; have:=Qux l; omega)
   rw[show ∀ {a b:Option (((List Qaa)×Int×Bool)⊕((List Qaa)×Int×Bool))} {r:Rs (List Qaa)},a=b→(RefL L a r↔RefL L b r) from fun h=>by rw[h]]<;>first | exact this | skip
   exact ih i o _ l.tail t1 (by omega) (hd0.lit hne)
  simp only[k1,decide_false,Bool.false_eq_true,if_false]
  have e12:(( if i then
     Qbm [101,110,100] L (pos L l) false>>=fun x13 =>
     if x13 then
      some true
     else
      if o then
       Qbm [101,108,115,101] L (pos L l) false>>=fun x14 =>
       some x14
      else
       some false
    else
     if o then
      Qbm [101,108,115,101] L (pos L l) false>>=fun x15 =>
      some x15
     else
      some false:Option (Bool)))=some ((i&&ahead wEnd l)||(o&&ahead wElse l)):=by
   simp only[rrAheadR hL h,Qad,Bool.not_false,Bool.true_and]
   cases i with
   | false=>cases o<;>simp
   | true =>
    cases ha:ahead [101,110,100] l with
    | true=>simp
    | false=>cases o<;>simp
  rw[e12,Qad]
  by_cases c:((i&&ahead wEnd l)||(o&&ahead wElse l))=true
  ·rw[if_pos c,if_pos c]
   exact .inr rfl
  rw[if_neg c,if_neg c,rrIsF hL h 2 (by decide),Qad]
  by_cases k2:kd l=2
  ·simp only[k2,decide_true,rrTakeOk hL h hne,Qad,if_true,rrIsF hL t1 3 (by decide)]
   by_cases k3:kd l.tail=3
   ·have n2:=Qb8 (kd_ne (by decide) k3)
    simp only[k3,decide_true,if_true,rrTakeOk hL t1 (kd_ne (by decide) k3),Qad]
    exact ih i o out l.tail.tail (Qa8 t1) (by omega) (hd0.suf ((List.tail_suffix _).trans (List.tail_suffix l)))
   ·simp only[k3,decide_false,Bool.false_eq_true,if_false]
    have ha:=rrAct hL (rrBlock1 hL ih) (fun i o l=>Qfy f i o [] l) t1 (by omega)
    have s1:=Qyb (fun i o l=>Qfy f i o [] l) l.tail
    have ea:∀ z:Qaa,appL 120 out [z]=some (out++[z]):=fun z=>Qgc (by have:=hd0.len; simp; omega) (by have:=hd0.len; simp; omega)
    cases hx:actR (fun i o l=>loopR f i o [] l) l.tail with
    | bad l2 =>
     rw[hx] at ha
     obtain⟨x,ha⟩:=ha
     simp only[ha,Qad,ea,rrLoopT hL,Rs.bind,RefL]
     exact⟨_,rfl⟩
    | ok x l2 =>
     rw[hx] at s1 ha
     have ha:Qct L (pos L l.tail) false=some (x,pos L l2,false):=ha
     have s2:l2 <:+ l:=s1.1.trans (List.tail_suffix l)
     simp only[ha,Qad,ea,Rs.bind]
     exact ih i o (out++[x]) l2 (s2.trans h) (by have:=s1.2; omega) (hd0.app (Q0a hx) s2 (by have:=s1.2; omega))
  ·obtain⟨x,hx⟩:=rrActT hL h
   have ea:∀ z:Qaa,appL 120 out [z]=some (out++[z]):=fun z=>Qgc (by have:=hd0.len; simp; omega) (by have:=hd0.len; simp; omega)
   simp only[k2,decide_false,rrTakeNo hL h,Qad,if_false,rrIsT hL h 3 (by decide),Bool.false_eq_true,hx,ea,rrLoopT hL,RefL]
   exact⟨_,rfl⟩
theorem rrBlk (i o:Bool) {l:List Qac} (h:l <:+ L):RefIs L (Qas i o L (pos L l) false) (bl20 i o l) :=
 rrBlock1 hL (rrLoop hL (l.length+1)) i o l h (by omega)
end
end Go.Proofs.YtagokkpnfceidaaGreatDoor
end

section
namespace Go.Proofs.YtagokkpnfceidaaGreatDoor
open Go.RowKit
def contB (c:UInt8):Bool:=decide (128≤c.toNat)&&decide (c.toNat<192)
def runeB (n:Nat):Bool:=decide (n≤1114111) && !(decide (55296≤n)&&decide (n≤57343))
def nextC (c:UInt8) (r:List UInt8):Nat×Nat :=
  if c.toNat<128 then(c.toNat,1)
  else if 192≤c.toNat∧c.toNat<224 then
   match r with
   | c1::_=>if contB c1=true∧128≤(c.toNat-192)*64+(c1.toNat-128) then((c.toNat-192)*64+(c1.toNat-128),2) else(65533,1)
   | _=>(65533,1)
  else if 224≤c.toNat∧c.toNat<240 then
   match r with
   | c1::c2::_=>if contB c1=true∧contB c2=true∧2048≤((c.toNat-224)*64+(c1.toNat-128))*64+(c2.toNat-128)∧runeB (((c.toNat-224)*64+(c1.toNat-128))*64+(c2.toNat-128))=true then(((c.toNat-224)*64+(c1.toNat-128))*64+(c2.toNat-128),3) else(65533,1)
   | _=>(65533,1)
  else if 240≤c.toNat∧c.toNat<248 then
   match r with
   | c1::c2::c3::_=>if contB c1=true∧contB c2=true∧contB c3=true∧65536≤(((c.toNat-240)*64+(c1.toNat-128))*64+(c2.toNat-128))*64+(c3.toNat-128)∧runeB ((((c.toNat-240)*64+(c1.toNat-128))*64+(c2.toNat-128))*64+(c3.toNat-128))=true then((((c.toNat-240)*64+(c1.toNat-128))*64+(c2.toNat-128))*64+(c3.toNat-128),4) else(65533,1)
   | _=>(65533,1)
  else(65533,1)
def nextP:List UInt8→Nat×Nat
 | []=>(0,0)
 | c::r=>nextC c r
theorem Quy {n:Int} (h1 : -2147483648≤n) (h2:n≤2147483647):IntKind.i32.wrap n=n:=by
 simp[IntKind.wrap,IntKind.bits,IntKind.signed]
 omega
theorem u8_in {n:Int} (h1:0≤n) (h2:n≤255):IntKind.u8.wrap n=n:=by
 simp[IntKind.wrap,IntKind.bits,IntKind.signed]
 omega
theorem and63:∀ c:Fin 256,bits .and .u8 ((c.1:Nat):Int) 63=((c.1 % 64:Nat):Int):=by decide +kernel
theorem and192:∀ c:Fin 256,(bits .and .u8 ((c.1:Nat):Int) 192 != 128) = !(decide (128≤c.1)&&decide (c.1<192)):=by decide +kernel
theorem and31:∀ c:Fin 256,bits .and .u8 ((c.1:Nat):Int) 31=((c.1 % 32:Nat):Int):=by decide +kernel
theorem and15:∀ c:Fin 256,bits .and .u8 ((c.1:Nat):Int) 15=((c.1 % 16:Nat):Int):=by decide +kernel
theorem and7:∀ c:Fin 256,bits .and .u8 ((c.1:Nat):Int) 7=((c.1 % 8:Nat):Int):=by decide +kernel
theorem or64 (a b:Nat) (ha:a<1000000) (hb:b<64):bits .or .i32 (IntKind.i32.wrap ((a:Int)*2 ^ (min (6:Int).toNat (IntKind.i32.bits)))) (IntKind.i32.wrap (b:Int))=((a*64+b:Nat):Int):=by
 have e1:IntKind.i32.wrap ((a:Int)*2 ^ (min (6:Int).toNat (IntKind.i32.bits)))=((a*64:Nat):Int):=by
  have:(min (6:Int).toNat (IntKind.i32.bits))=6:=rfl
  rw[this,Quy (by omega) (by omega)]; omega
 rw[e1,Quy (by omega) (by omega)]
 have e2:(2:Nat) ^ 6*a+b=2 ^ 6*a ||| b:=Nat.two_pow_add_eq_or_of_lt (by omega) a
 have e3:a*64 ||| b=a*64+b:=by
  have:(2:Nat) ^ 6*a=a*64:=by omega
  rw[this] at e2; omega
 show IntKind.i32.wrap ((BitVec.ofInt 32 ((a*64:Nat):Int) ||| BitVec.ofInt 32 (b:Int)).toNat:Int)=_
 rw[BitVec.toNat_or,BitVec.ofInt_natCast,BitVec.ofInt_natCast,BitVec.toNat_ofNat,BitVec.toNat_ofNat,Nat.mod_eq_of_lt (by omega),Nat.mod_eq_of_lt (by omega),e3,Quy (by omega) (by omega)]
theorem b63 (c:UInt8):bits .and .u8 (c.toNat:Int) 63=((c.toNat % 64:Nat):Int):=and63 ⟨c.toNat,c.toNat_lt⟩
theorem b192 (c:UInt8):(bits .and .u8 (c.toNat:Int) 192 != 128) = !contB c:=and192 ⟨c.toNat,c.toNat_lt⟩
theorem b31 (c:UInt8):bits .and .u8 (c.toNat:Int) 31=((c.toNat % 32:Nat):Int):=and31 ⟨c.toNat,c.toNat_lt⟩
theorem b15 (c:UInt8):bits .and .u8 (c.toNat:Int) 15=((c.toNat % 16:Nat):Int):=and15 ⟨c.toNat,c.toNat_lt⟩
theorem b7 (c:UInt8):bits .and .u8 (c.toNat:Int) 7=((c.toNat % 8:Nat):Int):=and7 ⟨c.toNat,c.toNat_lt⟩
theorem Q6m {c:UInt8} (h:contB c=true):c.toNat % 64=c.toNat-128:=by
 unfold contB at h
 simp at h
 omega
def tailP:Nat→List UInt8→Nat→Option Nat
 | 0,_,v=>some v
 | _+1,[],_=>none
 | m+1,c::r,v=>if contB c=true then tailP m r (v*64+(c.toNat-128)) else none
set_option maxRecDepth 20000 in
theorem tTailL (l:List UInt8) (m:Nat) (hm:m≤l.length) (hm3:m≤3):∀ (d k v:Nat),k+d=m→((k=0→v<64)∧(k≤1→v<4096)∧(k≤2→v<262144)) →
  Qfh l m v k=some (match tailP d (l.drop k) v with | some n =>.inl (n:Int) | none =>.inr ()):=by
 intro d
 induction d with
 | zero =>
  intro k v hk _
  rw[Qfh,ltI,decide_eq_false (by omega:¬ k<m)]
  rfl
 | succ d ih =>
  intro k v hk hv
  have hkl:k<l.length:=by omega
  have:decide ((k:Int)<(m:Int))=true:=decide_eq_true (by omega)
  rw[Qfh]
  simp only[this,if_true,Qb0,getE hkl,Qad,b192,b63]
  rw[or64 v _ (by omega) (Nat.mod_lt _ (by omega)),Qbx (by omega),dropE hkl]
  unfold tailP
  cases hc:contB l[k] with
  | false=>rfl
  | true =>
   rw[Q6m hc]
   have hlt:l[k].toNat-128<64:=by unfold contB at hc; simp at hc; omega
   have hv2:(k+1=0→v*64+(l[k].toNat-128)<64)∧(k+1≤1→v*64+(l[k].toNat-128)<4096)∧(k+1≤2→v*64+(l[k].toNat-128)<262144):=by omega
   simp only[Bool.not_true,Bool.false_eq_true,if_false,if_true]
   exact ih (k+1) _ (by omega) hv2
theorem tTail (l:List UInt8) (m v:Nat) (hm3:m≤3) (hv:v<64):Qox l v m=some (match (if l.length<m then none else tailP m l v) with | some n=>((n:Int),true) | none=>(0,false)):=by
 rw[Qox,ltI]
 by_cases h:l.length<m
 ·rw[decide_eq_true h,if_pos h]; rfl
 ·rw[decide_eq_false h,if_neg h]
  have:=tTailL l m (by omega) hm3 m 0 v (by omega) (by omega)
  rw[List.drop_zero] at this
  rw[show(0:Int)=((0:Nat):Int) from rfl,this]
  cases tailP m l v<;>rfl
theorem tIsR (n:Nat):Qwg (n:Int)=some (runeB n):=by
 have a:decide ((n:Int) ≥ 0)=true:=decide_eq_true (by omega)
 have b:decide ((n:Int)≤1114111)=decide (n≤1114111):=by
  by_cases h:n≤1114111
  ·rw[decide_eq_true h,decide_eq_true (by omega)]
  ·rw[decide_eq_false h,decide_eq_false (by omega)]
 rw[Qwg,a,b,runeB]
 by_cases h1:n<55296
 ·rw[decide_eq_true (show(n:Int)<55296 by omega),decide_eq_true (show n≤1114111 by omega),decide_eq_false (show ¬ 55296≤n by omega)]; rfl
 ·rw[decide_eq_false (show ¬ (n:Int)<55296 by omega),decide_eq_true (show 55296≤n by omega)]
  by_cases h2:n≤57343
  ·rw[decide_eq_false (show ¬ (n:Int)>57343 by omega),decide_eq_true h2,decide_eq_true (show n≤1114111 by omega)]; rfl
  ·rw[decide_eq_true (show(n:Int)>57343 by omega),decide_eq_false h2]
   cases decide (n≤1114111)<;>rfl
theorem rIsR (n:Nat):Qmg (n:Int)=some (runeB n):=by
 have a:decide ((n:Int) ≥ 0)=true:=decide_eq_true (by omega)
 have b:decide ((n:Int)≤1114111)=decide (n≤1114111):=by
  by_cases h:n≤1114111
  ·rw[decide_eq_true h,decide_eq_true (by omega)]
  ·rw[decide_eq_false h,decide_eq_false (by omega)]
 have c:decide ((n:Int) ≥ 55296)=decide (55296≤n):=by
  by_cases h:55296≤n
  ·rw[decide_eq_true h,decide_eq_true (by omega)]
  ·rw[decide_eq_false h,decide_eq_false (by omega)]
 have d:decide ((n:Int)≤57343)=decide (n≤57343):=by
  by_cases h:n≤57343
  ·rw[decide_eq_true h,decide_eq_true (by omega)]
  ·rw[decide_eq_false h,decide_eq_false (by omega)]
 rw[Qmg,a,b,c,d,runeB]
 cases decide (n≤1114111)<;>cases decide (55296≤n)<;>cases decide (n≤57343)<;>rfl
theorem ltC (c:UInt8) (k:Nat):decide ((c.toNat:Int)<(k:Int))=decide (c.toNat<k):=ltI _ _
theorem geC (c:UInt8) (k:Nat):decide ((c.toNat:Int) ≥ (k:Int))=decide (k≤c.toNat):=by
 by_cases h:k≤c.toNat
 ·rw[decide_eq_true h,decide_eq_true (by omega)]
 ·rw[decide_eq_false h,decide_eq_false (by omega)]
def endP (o:Option Nat) (least m:Nat):Nat×Nat:=match o with
 | some n=>if least≤n∧runeB n=true then(n,m+1) else(65533,1)
 | none=>(65533,1)
set_option maxRecDepth 20000 in
theorem tNext (s:List UInt8) (k:Nat) (hk:k<s.length) (hs:s.length<9223372036854775807):Qq1 s k=some (((nextP (s.drop k)).1:Int),((nextP (s.drop k)).2:Int)):=by
 have d1:decide ((k:Int)<0)=false:=decide_eq_false (by omega)
 have d2:decide ((k:Int) ≥ (s.length:Int))=false:=decide_eq_false (by omega)
 have hc:=s[k].toNat_lt
 have hr:cutL s (wr ((k:Int)+1)) (s.length:Int)=some (s.drop (k+1)):=by
  rw[Qbx (by omega),Ql0 (by omega) (by omega) (by omega)]
  simp
 rw[Qq1,d1,d2,hr,dropE hk]
 have l128:=ltC s[k] 128
 have g192:=geC s[k] 192
 have l224:=ltC s[k] 224
 have g224:=geC s[k] 224
 have l240:=ltC s[k] 240
 have g240:=geC s[k] 240
 have l248:=ltC s[k] 248
 have b1:∀ a b:Bool,(if a=true then some b else some false:Option Bool)=some (a&&b):=fun a b=>by cases a<;>rfl
 simp only[Bool.false_eq_true,if_false,Qad,Qb0,getE hk]
 rw[show(128:Int)=((128:Nat):Int) from rfl,show(192:Int)=((192:Nat):Int) from rfl,show(224:Int)=((224:Nat):Int) from rfl,show(240:Int)=((240:Nat):Int) from rfl,show(248:Int)=((248:Nat):Int) from rfl,l128,g192,l224,g224,l240,g240,l248]
 simp only[b1,Qad]
 rw[nextP]
 unfold nextC
 have fin:∀ (v least m:Nat),m≤3→v<64→(Qox (s.drop (k+1)) (v:Int) (m:Int)>>=fun x10 =>
   (if(!x10.2)=true then some true else if decide (x10.1<(least:Int))=true then some true else Qwg x10.1>>=fun x12=>some (!x12):Option Bool)>>=fun o11 =>
   if o11=true then some ((65533:Int),(1:Int)) else some (x10.1,wr ((m:Int)+1))) =
   some (((endP (if(s.drop (k+1)).length<m then none else tailP m (s.drop (k+1)) v) least m).1:Int),((endP (if(s.drop (k+1)).length<m then none else tailP m (s.drop (k+1)) v) least m).2:Int)):=fun v least m hm hv=>by
  rw[tTail _ m v hm hv]
  cases (if(s.drop (k+1)).length<m then none else tailP m (s.drop (k+1)) v) with
  | none=>rfl
  | some n =>
   simp only[Qad,Bool.not_true,Bool.false_eq_true,if_false,ltI,tIsR,endP]
   by_cases h1:n<least
   ·rw[decide_eq_true h1,if_neg (fun h=>absurd h.1 (by omega):¬ (least≤n∧runeB n=true))]; rfl
   ·rw[decide_eq_false h1]
    cases hrn:runeB n with
    | true=>rw[if_pos (⟨by omega,rfl⟩:least≤n∧true=true),Qbx (by omega)]; rfl
    | false=>rw[if_neg (fun h=>by cases h.2:¬ (least≤n∧false=true))]; rfl
 by_cases h1:s[k].toNat<128
 ·rw[decide_eq_true h1,if_pos h1]
  simp only[if_true,Qad]
  rw[Quy (by omega) (by omega)]; rfl
 rw[decide_eq_false h1,if_neg h1]
 simp only[Bool.false_eq_true,if_false]
 have cc:∀ c:UInt8,contB c=true→c.toNat-128<64:=fun c h=>by unfold contB at h; simp at h; omega
 by_cases h2:192≤s[k].toNat∧s[k].toNat<224
 ·rw[decide_eq_true h2.1,decide_eq_true h2.2,if_pos h2,b31]
  simp only[Bool.and_true,if_true,Qad]
  rw[Quy (by omega) (by omega)]
  have f:=fin (s[k].toNat % 32) 128 1 (by omega) (by omega)
  rw[show((1:Nat):Int)=1 from rfl] at f
  rw[f]
  have e:s[k].toNat % 32=s[k].toNat-192:=by omega
  rw[e]
  cases s.drop (k+1) with
  | nil=>rfl
  | cons c1 r1 =>
   simp only[List.length_cons,if_neg (by omega:¬ r1.length+1<1),tailP]
   cases h:contB c1 with
   | false=>rfl
   | true =>
    have:=cc c1 h
    have hr:runeB ((s[k].toNat-192)*64+(c1.toNat-128))=true:=by unfold runeB; rw[decide_eq_true (by omega),decide_eq_false (by omega)]; rfl
    simp only[if_true,endP,hr,and_true,true_and]
 rw[if_neg h2]
 have d2:(decide (192≤s[k].toNat)&&decide (s[k].toNat<224))=false:=by
  rw[Bool.and_eq_false_iff]
  by_cases h:192≤s[k].toNat
  ·exact .inr (decide_eq_false (by omega))
  ·exact .inl (decide_eq_false h)
 rw[d2]
 simp only[Bool.false_eq_true,if_false]
 by_cases h3:224≤s[k].toNat∧s[k].toNat<240
 ·rw[decide_eq_true h3.1,decide_eq_true h3.2,if_pos h3,b15]
  simp only[Bool.and_true,if_true,Qad]
  rw[Quy (by omega) (by omega)]
  have f:=fin (s[k].toNat % 16) 2048 2 (by omega) (by omega)
  rw[show((2:Nat):Int)=2 from rfl,show((2048:Nat):Int)=2048 from rfl] at f
  rw[f]
  have e:s[k].toNat % 16=s[k].toNat-224:=by omega
  rw[e]
  match s.drop (k+1) with
  | []=>rfl
  | [c1]=>rfl
  | c1::c2::r1 =>
   simp only[List.length_cons,if_neg (by omega:¬ r1.length+1+1<2),tailP]
   cases h:contB c1 with
   | false=>rfl
   | true =>
    cases h' : contB c2 with
    | false=>simp[endP]
    | true=>simp only[if_true,endP,true_and]
 rw[if_neg h3]
 have d3:(decide (224≤s[k].toNat)&&decide (s[k].toNat<240))=false:=by
  rw[Bool.and_eq_false_iff]
  by_cases h:224≤s[k].toNat
  ·exact .inr (decide_eq_false (by omega))
  ·exact .inl (decide_eq_false h)
 rw[d3]
 simp only[Bool.false_eq_true,if_false]
 by_cases h4:240≤s[k].toNat∧s[k].toNat<248
 ·rw[decide_eq_true h4.1,decide_eq_true h4.2,if_pos h4,b7]
  simp only[Bool.and_true,if_true,Qad]
  rw[Quy (by omega) (by omega)]
  have f:=fin (s[k].toNat % 8) 65536 3 (by omega) (by omega)
  rw[show((3:Nat):Int)=3 from rfl,show((65536:Nat):Int)=65536 from rfl] at f
  rw[f]
  have e:s[k].toNat % 8=s[k].toNat-240:=by omega
  rw[e]
  match s.drop (k+1) with
  | []=>rfl
  | [c1]=>rfl
  | [c1,c2]=>rfl
  | c1::c2::c3::r1 =>
   simp only[List.length_cons,if_neg (by omega:¬ r1.length+1+1+1<3),tailP]
   cases h:contB c1 with
   | false=>rfl
   | true =>
    cases h' : contB c2 with
    | false=>simp[endP]
    | true =>
     cases h'' : contB c3 with
     | false=>simp[endP]
     | true=>simp only[if_true,endP,true_and]
 rw[if_neg h4]
 have d4:(decide (240≤s[k].toNat)&&decide (s[k].toNat<248))=false:=by
  rw[Bool.and_eq_false_iff]
  by_cases h:240≤s[k].toNat
  ·exact .inr (decide_eq_false (by omega))
  ·exact .inl (decide_eq_false h)
 rw[d4]
 rfl
theorem Qr0 (l:List UInt8) (h:l≠[]):1≤(nextP l).2∧(nextP l).2≤l.length:=by
 cases l with
 | nil=>exact absurd rfl h
 | cons c r =>
  rw[nextP]
  unfold nextC
  split
  ·simp
  ·split
   ·split
    ·split<;>simp
    ·simp
   ·split
    ·split
     ·split<;>simp
     ·simp
    ·split
     ·split
      ·split<;>simp
      ·simp
     ·simp
end Go.Proofs.YtagokkpnfceidaaGreatDoor
end

section
namespace Go.Proofs.YtagokkpnfceidaaGreatDoor
open Go.RowKit
def bytesN (n:Nat):List Nat :=
 if n<128 then [n] else if n<2048 then [192+n / 64,128+n % 64] else if n<65536 then [224+n / 4096,128+n / 64 % 64,128+n % 64] else [240+n / 262144,128+n / 4096 % 64,128+n / 64 % 64,128+n % 64]
theorem Q6n (l:List Nat) (h:∀ x ∈ l,x<256) (m:List UInt8):(l.map UInt8.ofNat==m)=decide (l=m.map UInt8.toNat):=by
 have key:l.map UInt8.ofNat=m↔l=m.map UInt8.toNat:=by
  constructor
  ·intro e
   subst e
   rw[List.map_map]
   conv=>lhs; rw[← List.map_id l]
   refine List.map_congr_left fun x hx=>?_
   have:=h x hx
   show x=(UInt8.ofNat x).toNat
   rw[UInt8.toNat_ofNat', Nat.mod_eq_of_lt this]
  ·intro e
   subst e
   rw[List.map_map]
   conv=>rhs; rw[← List.map_id m]
   exact List.map_congr_left fun x _=>by simp
 by_cases he:l.map UInt8.ofNat=m
 ·rw[decide_eq_true (key.1 he),beq_iff_eq]; exact he
 ·rw[decide_eq_false (fun k=>he (key.2 k)),beq_eq_false_iff_ne]; exact he
theorem Q2t (l:List Nat) (h:∀ x ∈ l,x<256):b2s (l.map fun x:Nat=>(x:Int))=some (l.map UInt8.ofNat):=by
 unfold b2s
 rw[if_pos]
 ·rw[List.map_map]; rfl
 ·rw[List.all_eq_true]
  intro n hn
  obtain⟨x,hx,rfl⟩:=List.mem_map.1 hn
  have:=h x hx
  simp only[decide_eq_true_eq]
  omega
theorem td (n k:Nat):((n:Int).tdiv (k:Int))=((n / k:Nat):Int):=by rw[Int.tdiv_eq_ediv_of_nonneg (by omega)]; rfl
theorem tm (n k:Nat):((n:Int).tmod (k:Int))=((n % k:Nat):Int):=by rw[Int.tmod_eq_emod_of_nonneg (by omega)]; rfl
theorem wrN (n:Nat) (h:n<9000000000000):wr (n:Int)=(n:Int):=wr_in (by omega) (by omega)
theorem u8N (n:Nat) (h:n<256):IntKind.u8.wrap (n:Int)=(n:Int):=u8_in (by omega) (by omega)
set_option maxRecDepth 20000 in
theorem rBytes (n:Nat) (h:runeB n=true):Qll (n:Int)=some ((bytesN n).map UInt8.ofNat):=by
 have hn:n≤1114111:=by unfold runeB at h; rw[Bool.and_eq_true] at h; exact of_decide_eq_true h.1
 have a1:decide ((n:Int)<128)=decide (n<128):=ltI n 128
 have a2:decide ((n:Int)<2048)=decide (n<2048):=ltI n 2048
 have a3:decide ((n:Int)<65536)=decide (n<65536):=ltI n 65536
 have d64:(n:Int).tdiv 64=((n / 64:Nat):Int):=td n 64
 have m64:(n:Int).tmod 64=((n % 64:Nat):Int):=tm n 64
 have d4096:(n:Int).tdiv 4096=((n / 4096:Nat):Int):=td n 4096
 have d262:(n:Int).tdiv 262144=((n / 262144:Nat):Int):=td n 262144
 have w1:∀ a b:Nat,a+b<256→IntKind.u8.wrap (wr ((a:Int)+(b:Int)))=((a+b:Nat):Int):=fun a b h=>by
  rw[wr_in (by omega) (by omega),u8_in (by omega) (by omega)]; rfl
 rw[Qll,rIsR,h]
 simp only[Qad,Bool.not_true,Bool.false_eq_true,if_false,a1,a2,a3,d64,m64,d4096,d262]
 rw[wrN (n / 64) (by omega),wrN (n / 4096) (by omega),wrN (n / 262144) (by omega)]
 have t64:(((n / 64:Nat):Int)).tmod 64=((n / 64 % 64:Nat):Int):=tm (n / 64) 64
 have t4096:(((n / 4096:Nat):Int)).tmod 64=((n / 4096 % 64:Nat):Int):=tm (n / 4096) 64
 rw[t64,t4096]
 unfold bytesN
 by_cases h1:n<128
 ·rw[decide_eq_true h1,if_pos h1,u8N n (by omega)]
  simp only[if_true]
  have:=Q2t [n] (by simp; omega)
  simp only[List.map_cons,List.map_nil] at this
  rw[this]; rfl
 rw[decide_eq_false h1,if_neg h1]
 by_cases h2:n<2048
 ·rw[decide_eq_true h2,if_pos h2]
  have e1:=w1 192 (n / 64) (by omega)
  have e2:=w1 128 (n % 64) (by omega)
  have:=Q2t [192+n / 64,128+n % 64] (by simp; omega)
  simp only[List.map_cons,List.map_nil] at this
  simp only[Bool.false_eq_true,if_false,if_true]
  rw[show(192:Int)=((192:Nat):Int) from rfl,show(128:Int)=((128:Nat):Int) from rfl,e1,e2,this]; rfl
 rw[decide_eq_false h2,if_neg h2]
 by_cases h3:n<65536
 ·rw[decide_eq_true h3,if_pos h3]
  have e1:=w1 224 (n / 4096) (by omega)
  have e2:=w1 128 (n / 64 % 64) (by omega)
  have e3:=w1 128 (n % 64) (by omega)
  have:=Q2t [224+n / 4096,128+n / 64 % 64,128+n % 64] (by simp; omega)
  simp only[List.map_cons,List.map_nil] at this
  simp only[Bool.false_eq_true,if_false,if_true]
  rw[show(224:Int)=((224:Nat):Int) from rfl,show(128:Int)=((128:Nat):Int) from rfl,e1,e2,e3,this]; rfl
 rw[decide_eq_false h3,if_neg h3]
 have e0:=w1 240 (n / 262144) (by omega)
 have e1:=w1 128 (n / 4096 % 64) (by omega)
 have e2:=w1 128 (n / 64 % 64) (by omega)
 have e3:=w1 128 (n % 64) (by omega)
 have:=Q2t [240+n / 262144,128+n / 4096 % 64,128+n / 64 % 64,128+n % 64] (by simp; omega)
 simp only[List.map_cons,List.map_nil] at this
 simp only[Bool.false_eq_true,if_false]
 rw[show(240:Int)=((240:Nat):Int) from rfl,show(128:Int)=((128:Nat):Int) from rfl,e0,e1,e2,e3,this]; rfl
theorem Q5f (n:Nat) (h:n≤1114111):∀ x ∈ bytesN n,x<256:=by
 unfold bytesN
 split
 ·simp; omega
 ·split
  ·simp; omega
  ·split<;>simp<;>omega
theorem rTest (s:List UInt8) (k m:Nat) (hm:k+m≤s.length) (hs:s.length<9000000000000) (n:Int) :
  ( if(decide (n ≥ 0))=true then
    Qmg n>>=fun x11 =>
    if x11=true then
     Qll n>>=fun x12 =>
     cutL s k (wr ((k:Int)+m))>>=fun x13 =>
     some (x12==x13)
    else
     some false
   else
    some false:Option Bool)=some (decide (0≤n)&&(runeB n.toNat&&decide (bytesN n.toNat=((s.take (k+m)).drop k).map UInt8.toNat))):=by
 have e:wr ((k:Int)+m)=((k+m:Nat):Int):=by rw[wr_in (by omega) (by omega)]; rfl
 by_cases h:0≤n
 ·obtain⟨v,rfl⟩:∃ v:Nat,n=v:=⟨n.toNat,by omega⟩
  rw[decide_eq_true (show(v:Int) ≥ 0 by omega),rIsR,e,Ql0 (by omega) (by omega) (by omega)]
  simp only[if_true,Qad,Int.toNat_natCast,Bool.true_and]
  cases hr:runeB v with
  | false=>rfl
  | true =>
   have hv:v≤1114111:=by unfold runeB at hr; rw[Bool.and_eq_true] at hr; exact of_decide_eq_true hr.1
   rw[rBytes v hr]
   simp only[if_true,Qad,Q6n _ (Q5f v hv),Bool.true_and]
 ·rw[decide_eq_false (show ¬ n ≥ 0 from h)]; rfl
theorem wr64 (a b:Int) (ha : -3000000≤a) (ha2:a≤3000000) (hb:0≤b) (hb2:b≤255):wr ((wr ((wr (64*a))+(wr b)))-128)=64*a+b-128:=by
 rw[wr_in (n:=64*a) (by omega) (by omega),wr_in (n:=b) (by omega) (by omega),wr_in (n:=64*a+b) (by omega) (by omega),wr_in (by omega) (by omega)]
def addN (a:Int) (c:UInt8):Int:=64*a+c.toNat-128
theorem rL2 (s:List UInt8) (k:Nat) (v6:List Int) (m:Nat) (hm:k+m≤s.length) (hm4:m≤4) (hs:s.length<9000000000000):∀ d (i:Nat) (v:Int),i+d=m→1≤i→(i=1 → -300≤v∧v≤300)→(i=2 → -30000≤v∧v≤30000)→(i=3 → -3000000≤v∧v≤3000000) →
  Qfc s k v6 m v i=some (((s.drop (k+i)).take d).foldl addN v):=by
 intro d
 induction d with
 | zero =>
  intro i v hi _ _ _ _
  rw[Qfc,ltI,decide_eq_false (by omega:¬ i<m)]
  simp
 | succ d ih =>
  intro i v hi hi1 h1 h2 h3
  have hk:k+i<s.length:=by omega
  have e1:wr ((k:Int)+i)=((k+i:Nat):Int):=by rw[wr_in (by omega) (by omega)]; rfl
  have hc:=s[k+i].toNat_lt
  have hb : -3000000≤v∧v≤3000000:=by omega
  rw[Qfc,ltI,decide_eq_true (by omega:i<m),e1,Qbx (by omega)]
  simp only[if_true,Qb0,getE hk,Qad]
  rw[wr64 v _ hb.1 hb.2 (by omega) (by omega),dropE hk,List.take_succ_cons,List.foldl_cons]
  exact ih (i+1) (addN v s[k+i]) (by omega) (by omega) (by omega) (by unfold addN; omega) (by unfold addN; omega)
def leadL:List Int:=[0,0,192,224,240]
def numN (c:UInt8) (r:List UInt8) (m:Nat):Int:=(r.take (m-1)).foldl addN ((c.toNat:Int)-(leadL[m]?.getD 0))
def tstB (c:UInt8) (r:List UInt8) (m:Nat):Bool:=decide (0≤numN c r m)&&(runeB (numN c r m).toNat&&decide (bytesN (numN c r m).toNat=((c::r).take m).map UInt8.toNat))
theorem rL1 (s:List UInt8) (k:Nat) (hk:k<s.length) (hs:s.length<9000000000000) (m:Nat) (h1:1≤m) (h4:m≤4) :
  Qc7 s k leadL m=if k+m≤s.length then(if tstB s[k] (s.drop (k+1)) m=true then some (.inr (numN s[k] (s.drop (k+1)) m,(m:Int))) else Qc7 s k leadL ((m+1:Nat):Int)) else some (.inl ()):=by
 have e0:wr ((s.length:Int)-k)=((s.length-k:Nat):Int):=by rw[wr_in (by omega) (by omega)]; omega
 have a4:decide ((m:Int)≤4)=true:=decide_eq_true (by omega)
 have hc:=s[k].toNat_lt
 rw[Qc7,e0,a4]
 by_cases hm:k+m≤s.length
 ·have a5:decide ((m:Int)≤((s.length-k:Nat):Int))=true:=decide_eq_true (by omega)
  obtain⟨ld,hld,hl0,hl1⟩:∃ ld:Int,leadL[m]? = some ld∧0≤ld∧ld≤240:=by
   match m,h1,h4 with
   | 1,_,_=>exact⟨0,rfl,by omega,by omega⟩
   | 2,_,_=>exact⟨192,rfl,by omega,by omega⟩
   | 3,_,_=>exact⟨224,rfl,by omega,by omega⟩
   | 4,_,_=>exact⟨240,rfl,by omega,by omega⟩
  have ew:wr ((wr (s[k].toNat:Int))-ld)=(s[k].toNat:Int)-ld:=by rw[wr_in (n:=(s[k].toNat:Int)) (by omega) (by omega),wr_in (by omega) (by omega)]
  have h2:=rL2 s k leadL m hm h4 hs (m-1) 1 ((s[k].toNat:Int)-ld) (by omega) (by omega) (by omega) (by omega) (by omega)
  have en:numN s[k] (s.drop (k+1)) m=((s.drop (k+1)).take (m-1)).foldl addN ((s[k].toNat:Int)-ld):=by rw[numN,hld]; rfl
  rw[← en,show((1:Nat):Int)=1 from rfl] at h2
  have ht:=rTest s k m hm hs (numN s[k] (s.drop (k+1)) m)
  have et:((s.take (k+m)).drop k)=((s[k]::s.drop (k+1)).take m):=by rw[← dropE hk,List.drop_take]; congr 1; omega
  rw[et] at ht
  rw[a5,if_pos hm,Qbx (by omega)]
  simp only[if_true,Qad,Qb0,getE hk,hld,ew,h2]
  rw[ht]
  rfl
 ·have a5:decide ((m:Int)≤((s.length-k:Nat):Int))=false:=decide_eq_false (by omega)
  rw[a5,if_neg hm]
  rfl
theorem tst1 (c:UInt8) (r:List UInt8):tstB c r 1=decide (c.toNat<128)∧numN c r 1=(c.toNat:Int):=by
 have hc:=c.toNat_lt
 have en:numN c r 1=(c.toNat:Int):=by simp[numN,leadL]
 refine⟨?_,en⟩
 have hr:runeB c.toNat=true:=by unfold runeB; rw[decide_eq_true (by omega),decide_eq_false (by omega)]; rfl
 rw[tstB,en,decide_eq_true (by omega),Int.toNat_natCast,hr]
 simp only[Bool.true_and,List.take_succ_cons,List.take_zero,List.map_cons,List.map_nil]
 unfold bytesN
 by_cases h:c.toNat<128
 ·rw[decide_eq_true h,if_pos h]; simp
 ·rw[decide_eq_false h,if_neg h,if_pos (by omega)]
  simp
theorem tst2 (c c1:UInt8) (r:List UInt8):tstB c (c1::r) 2=decide ((192≤c.toNat∧c.toNat<224)∧contB c1=true∧128≤(c.toNat-192)*64+(c1.toNat-128))∧numN c (c1::r) 2=64*((c.toNat:Int)-192)+c1.toNat-128:=by
 have hc:=c.toNat_lt
 have hc1:=c1.toNat_lt
 have en:numN c (c1::r) 2=64*((c.toNat:Int)-192)+c1.toNat-128:=by simp[numN,leadL,addN]
 refine⟨?_,en⟩
 rw[tstB,en]
 simp only[List.take_succ_cons,List.take_zero,List.map_cons,List.map_nil]
 have hcont:contB c1=true↔(128≤c1.toNat∧c1.toNat<192):=by unfold contB; simp
 by_cases hn:0≤64*((c.toNat:Int)-192)+c1.toNat-128
 ·obtain⟨n,hn2⟩:∃ n:Nat,64*((c.toNat:Int)-192)+c1.toNat-128=n:=⟨(64*((c.toNat:Int)-192)+c1.toNat-128).toNat,by omega⟩
  rw[hn2,Int.toNat_natCast,decide_eq_true (by omega),Bool.true_and]
  have hlt:n<5000:=by omega
  have hr:runeB n=true:=by unfold runeB; rw[decide_eq_true (by omega),decide_eq_false (by omega)]; rfl
  rw[hr,Bool.true_and]
  congr 1
  apply propext
  rw[hcont]
  unfold bytesN
  by_cases h1:n<128
  ·rw[if_pos h1]
   constructor
   ·intro h; simp at h
   ·intro h; omega
  ·rw[if_neg h1]
   by_cases h2:n<2048
   ·rw[if_pos h2]
    simp only[List.cons.injEq,and_true]
    omega
   ·rw[if_neg h2,if_pos (by omega)]
    constructor
    ·intro h; simp at h
    ·intro h; omega
 ·rw[decide_eq_false hn,Bool.false_and,decide_eq_false]
  rw[hcont]; omega
theorem tst3 (c c1 c2:UInt8) (r:List UInt8):tstB c (c1::c2::r) 3=decide ((224≤c.toNat∧c.toNat<240)∧contB c1=true∧contB c2=true∧2048≤((c.toNat-224)*64+(c1.toNat-128))*64+(c2.toNat-128)∧runeB (((c.toNat-224)*64+(c1.toNat-128))*64+(c2.toNat-128))=true) ∧
  numN c (c1::c2::r) 3=64*(64*((c.toNat:Int)-224)+c1.toNat-128)+c2.toNat-128:=by
 have hc:=c.toNat_lt
 have hc1:=c1.toNat_lt
 have hc2:=c2.toNat_lt
 have en:numN c (c1::c2::r) 3=64*(64*((c.toNat:Int)-224)+c1.toNat-128)+c2.toNat-128:=by simp[numN,leadL,addN]
 refine⟨?_,en⟩
 rw[tstB,en]
 simp only[List.take_succ_cons,List.take_zero,List.map_cons,List.map_nil]
 have hcont:contB c1=true↔(128≤c1.toNat∧c1.toNat<192):=by unfold contB; simp
 have hcont2:contB c2=true↔(128≤c2.toNat∧c2.toNat<192):=by unfold contB; simp
 by_cases hn:0≤64*(64*((c.toNat:Int)-224)+c1.toNat-128)+c2.toNat-128
 ·obtain⟨n,hn2⟩:∃ n:Nat,64*(64*((c.toNat:Int)-224)+c1.toNat-128)+c2.toNat-128=n:=⟨(64*(64*((c.toNat:Int)-224)+c1.toNat-128)+c2.toNat-128).toNat,by omega⟩
  rw[hn2,Int.toNat_natCast,decide_eq_true (by omega),Bool.true_and]
  have hlt:n<200000:=by omega
  have key:bytesN n=[c.toNat,c1.toNat,c2.toNat]↔((224≤c.toNat∧c.toNat<240)∧(128≤c1.toNat∧c1.toNat<192)∧(128≤c2.toNat∧c2.toNat<192)∧2048≤n):=by
   unfold bytesN
   by_cases h1:n<128
   ·rw[if_pos h1]
    exact⟨fun h=>by simp at h,fun h=>by omega⟩
   rw[if_neg h1]
   by_cases h2:n<2048
   ·rw[if_pos h2]
    exact⟨fun h=>by simp at h,fun h=>by omega⟩
   rw[if_neg h2]
   by_cases h3:n<65536
   ·rw[if_pos h3]
    simp only[List.cons.injEq,and_true]
    omega
   ·rw[if_neg h3]
    exact⟨fun h=>by simp at h,fun h=>by omega⟩
  rw[Bool.eq_iff_iff]
  simp only[Bool.and_eq_true,decide_eq_true_eq]
  rw[key,hcont,hcont2]
  constructor
  ·rintro ⟨hr,a,b,c', d⟩
   have e:((c.toNat-224)*64+(c1.toNat-128))*64+(c2.toNat-128)=n:=by omega
   exact⟨a,b,c', by omega,by rw[e]; exact hr⟩
  ·rintro ⟨a,b,c', d,hr⟩
   have e:((c.toNat-224)*64+(c1.toNat-128))*64+(c2.toNat-128)=n:=by omega
   rw[e] at hr d
   exact⟨hr,a,b,c', d⟩
 ·rw[decide_eq_false hn,Bool.false_and,decide_eq_false]
  rw[hcont,hcont2]; omega
theorem tst4 (c c1 c2 c3:UInt8) (r:List UInt8):tstB c (c1::c2::c3::r) 4=decide ((240≤c.toNat∧c.toNat<248)∧contB c1=true∧contB c2=true∧contB c3=true∧65536≤(((c.toNat-240)*64+(c1.toNat-128))*64+(c2.toNat-128))*64+(c3.toNat-128)∧runeB ((((c.toNat-240)*64+(c1.toNat-128))*64+(c2.toNat-128))*64+(c3.toNat-128))=true) ∧
  numN c (c1::c2::c3::r) 4=64*(64*(64*((c.toNat:Int)-240)+c1.toNat-128)+c2.toNat-128)+c3.toNat-128:=by
 have hc:=c.toNat_lt
 have hc1:=c1.toNat_lt
 have hc2:=c2.toNat_lt
 have hc3:=c3.toNat_lt
 have en:numN c (c1::c2::c3::r) 4=64*(64*(64*((c.toNat:Int)-240)+c1.toNat-128)+c2.toNat-128)+c3.toNat-128:=by simp[numN,leadL,addN]
 refine⟨?_,en⟩
 rw[tstB,en]
 simp only[List.take_succ_cons,List.take_zero,List.map_cons,List.map_nil]
 have hcont:contB c1=true↔(128≤c1.toNat∧c1.toNat<192):=by unfold contB; simp
 have hcont2:contB c2=true↔(128≤c2.toNat∧c2.toNat<192):=by unfold contB; simp
 have hcont3:contB c3=true↔(128≤c3.toNat∧c3.toNat<192):=by unfold contB; simp
 by_cases hn:0≤64*(64*(64*((c.toNat:Int)-240)+c1.toNat-128)+c2.toNat-128)+c3.toNat-128
 ·obtain⟨n,hn2⟩:∃ n:Nat,64*(64*(64*((c.toNat:Int)-240)+c1.toNat-128)+c2.toNat-128)+c3.toNat-128=n:=⟨(64*(64*(64*((c.toNat:Int)-240)+c1.toNat-128)+c2.toNat-128)+c3.toNat-128).toNat,by omega⟩
  rw[hn2,Int.toNat_natCast,decide_eq_true (by omega),Bool.true_and]
  have key:runeB n=true→(bytesN n=[c.toNat,c1.toNat,c2.toNat,c3.toNat]↔((240≤c.toNat∧c.toNat<248)∧(128≤c1.toNat∧c1.toNat<192)∧(128≤c2.toNat∧c2.toNat<192)∧(128≤c3.toNat∧c3.toNat<192)∧65536≤n)):=fun hr=>by
   have hlt:n≤1114111:=by unfold runeB at hr; rw[Bool.and_eq_true] at hr; exact of_decide_eq_true hr.1
   unfold bytesN
   by_cases h1:n<128
   ·rw[if_pos h1]
    exact⟨fun h=>by simp at h,fun h=>by omega⟩
   rw[if_neg h1]
   by_cases h2:n<2048
   ·rw[if_pos h2]
    exact⟨fun h=>by simp at h,fun h=>by omega⟩
   rw[if_neg h2]
   by_cases h3:n<65536
   ·rw[if_pos h3]
    exact⟨fun h=>by simp at h,fun h=>by omega⟩
   ·rw[if_neg h3]
    simp only[List.cons.injEq,and_true]
    omega
  rw[Bool.eq_iff_iff]
  simp only[Bool.and_eq_true,decide_eq_true_eq]
  rw[hcont,hcont2,hcont3]
  constructor
  ·rintro ⟨hr,hb⟩
   obtain⟨a,b,c', d', d⟩:=(key hr).1 hb
   have e:(((c.toNat-240)*64+(c1.toNat-128))*64+(c2.toNat-128))*64+(c3.toNat-128)=n:=by omega
   exact⟨a,b,c', d', by omega,by rw[e]; exact hr⟩
  ·rintro ⟨a,b,c', d', d,hr⟩
   have e:(((c.toNat-240)*64+(c1.toNat-128))*64+(c2.toNat-128))*64+(c3.toNat-128)=n:=by omega
   rw[e] at hr d
   exact⟨hr,(key hr).2 ⟨a,b,c', d', d⟩⟩
 ·rw[decide_eq_false hn,Bool.false_and,decide_eq_false]
  rw[hcont,hcont2,hcont3]; omega
theorem rNext (s:List UInt8) (k:Nat) (hk:k<s.length) (hs:s.length<9000000000000):Qov s k=some (((nextP (s.drop k)).1:Int),((nextP (s.drop k)).2:Int)):=by
 have d1:decide ((k:Int)<0)=false:=decide_eq_false (by omega)
 have d2:decide ((k:Int) ≥ (s.length:Int))=false:=decide_eq_false (by omega)
 have hc:=s[k].toNat_lt
 have l1:=rL1 s k hk hs 1 (by omega) (by omega)
 have l2:=rL1 s k hk hs 2 (by omega) (by omega)
 have l3:=rL1 s k hk hs 3 (by omega) (by omega)
 have l4:=rL1 s k hk hs 4 (by omega) (by omega)
 have l5:Qc7 s k leadL ((4+1:Nat):Int)=some (.inl ()):=by
  rw[Qc7,show decide (((4+1:Nat):Int)≤4)=false from rfl]
  simp only[Bool.false_eq_true,if_false,Qad]
 have hdl:(s.drop (k+1)).length=s.length-(k+1):=List.length_drop
 rw[Qov,d1,d2,dropE hk,nextP]
 show(Qc7 s k leadL ((1:Nat):Int)>>=_)=_
 rw[l1,if_pos (by omega),(tst1 _ _).1,(tst1 _ _).2,l2]
 unfold nextC
 by_cases h1:s[k].toNat<128
 ·rw[decide_eq_true h1,if_pos rfl,if_pos h1]; rfl
 rw[decide_eq_false h1,if_neg (by decide),if_neg h1]
 generalize hr:s.drop (k+1)=r at *
 match r with
 | [] =>
  simp at hdl
  rw[if_neg (by omega)]
  simp
 | [c1] =>
  simp at hdl
  have hc1:=c1.toNat_lt
  rw[if_pos (by omega),(tst2 _ _ _).1,(tst2 _ _ _).2,l3,if_neg (by omega:¬ k+3≤s.length)]
  dsimp only
  by_cases h2:192≤s[k].toNat∧s[k].toNat<224
  ·rw[if_pos h2]
   by_cases h3:contB c1=true∧128≤(s[k].toNat-192)*64+(c1.toNat-128)
   ·have h4:128≤c1.toNat:=by have:=h3.1; unfold contB at this; simp at this; exact this.1
    rw[decide_eq_true ⟨h2,h3⟩,if_pos rfl,if_pos h3]
    simp only[Qad]
    congr 2
    omega
   ·rw[decide_eq_false (fun h=>h3 h.2),if_neg (by decide),if_neg h3]; rfl
  ·rw[decide_eq_false (fun h=>h2 h.1),if_neg (by decide),if_neg h2]
   simp
 | [c1,c2] =>
  simp at hdl
  have hc1:=c1.toNat_lt
  have hc2:=c2.toNat_lt
  rw[if_pos (by omega),(tst2 _ _ _).1,(tst2 _ _ _).2,l3,if_pos (by omega:k+3≤s.length),(tst3 _ _ _ _).1,(tst3 _ _ _ _).2,l4,if_neg (by omega:¬ k+4≤s.length)]
  dsimp only
  by_cases h2:192≤s[k].toNat∧s[k].toNat<224
  ·rw[if_pos h2]
   by_cases h3:contB c1=true∧128≤(s[k].toNat-192)*64+(c1.toNat-128)
   ·have h4:128≤c1.toNat:=by have:=h3.1; unfold contB at this; simp at this; exact this.1
    rw[decide_eq_true ⟨h2,h3⟩,if_pos rfl,if_pos h3]
    simp only[Qad]
    congr 2
    omega
   ·rw[decide_eq_false (fun h=>h3 h.2),if_neg (by decide),if_neg h3,decide_eq_false (fun h=>by have:=h.1; omega),if_neg (by decide)]; rfl
  ·rw[decide_eq_false (fun h=>h2 h.1),if_neg (by decide),if_neg h2]
   by_cases h5:224≤s[k].toNat∧s[k].toNat<240
   ·rw[if_pos h5]
    by_cases h6:contB c1=true∧contB c2=true∧2048≤((s[k].toNat-224)*64+(c1.toNat-128))*64+(c2.toNat-128)∧runeB (((s[k].toNat-224)*64+(c1.toNat-128))*64+(c2.toNat-128))=true
    ·have h4:128≤c1.toNat:=by have:=h6.1; unfold contB at this; simp at this; exact this.1
     have h4' : 128≤c2.toNat:=by have:=h6.2.1; unfold contB at this; simp at this; exact this.1
     rw[decide_eq_true ⟨h5,h6⟩,if_pos rfl,if_pos h6]
     simp only[Qad]
     congr 2
     omega
    ·rw[decide_eq_false (fun h=>h6 h.2),if_neg (by decide),if_neg h6]; rfl
   ·rw[decide_eq_false (fun h=>h5 h.1),if_neg (by decide),if_neg h5]
    simp
 | c1::c2::c3::r =>
  simp at hdl
  have hc1:=c1.toNat_lt
  have hc2:=c2.toNat_lt
  have hc3:=c3.toNat_lt
  rw[if_pos (by omega),(tst2 _ _ _).1,(tst2 _ _ _).2,l3,if_pos (by omega:k+3≤s.length),(tst3 _ _ _ _).1,(tst3 _ _ _ _).2,l4,if_pos (by omega:k+4≤s.length),(tst4 _ _ _ _ _).1,(tst4 _ _ _ _ _).2,l5]
  dsimp only
  by_cases h2:192≤s[k].toNat∧s[k].toNat<224
  ·rw[if_pos h2]
   by_cases h3:contB c1=true∧128≤(s[k].toNat-192)*64+(c1.toNat-128)
   ·have h4:128≤c1.toNat:=by have:=h3.1; unfold contB at this; simp at this; exact this.1
    rw[decide_eq_true ⟨h2,h3⟩,if_pos rfl,if_pos h3]
    simp only[Qad]
    congr 2
    omega
   ·rw[decide_eq_false (fun h=>h3 h.2),if_neg (by decide),if_neg h3,decide_eq_false (fun h=>by have:=h.1; omega),if_neg (by decide),decide_eq_false (fun h=>by have:=h.1; omega),if_neg (by decide)]; rfl
  ·rw[decide_eq_false (fun h=>h2 h.1),if_neg (by decide),if_neg h2]
   by_cases h5:224≤s[k].toNat∧s[k].toNat<240
   ·rw[if_pos h5]
    by_cases h6:contB c1=true∧contB c2=true∧2048≤((s[k].toNat-224)*64+(c1.toNat-128))*64+(c2.toNat-128)∧runeB (((s[k].toNat-224)*64+(c1.toNat-128))*64+(c2.toNat-128))=true
    ·have h4:128≤c1.toNat:=by have:=h6.1; unfold contB at this; simp at this; exact this.1
     have h4' : 128≤c2.toNat:=by have:=h6.2.1; unfold contB at this; simp at this; exact this.1
     rw[decide_eq_true ⟨h5,h6⟩,if_pos rfl,if_pos h6]
     simp only[Qad]
     congr 2
     omega
    ·rw[decide_eq_false (fun h=>h6 h.2),if_neg (by decide),if_neg h6,decide_eq_false (fun h=>by have:=h.1; omega),if_neg (by decide)]; rfl
   ·rw[decide_eq_false (fun h=>h5 h.1),if_neg (by decide),if_neg h5]
    by_cases h7:240≤s[k].toNat∧s[k].toNat<248
    ·rw[if_pos h7]
     by_cases h8:contB c1=true∧contB c2=true∧contB c3=true∧65536≤(((s[k].toNat-240)*64+(c1.toNat-128))*64+(c2.toNat-128))*64+(c3.toNat-128)∧runeB ((((s[k].toNat-240)*64+(c1.toNat-128))*64+(c2.toNat-128))*64+(c3.toNat-128))=true
     ·have h4:128≤c1.toNat:=by have:=h8.1; unfold contB at this; simp at this; exact this.1
      have h4' : 128≤c2.toNat:=by have:=h8.2.1; unfold contB at this; simp at this; exact this.1
      have h4'' : 128≤c3.toNat:=by have:=h8.2.2.1; unfold contB at this; simp at this; exact this.1
      rw[decide_eq_true ⟨h7,h8⟩,if_pos rfl,if_pos h8]
      simp only[Qad]
      congr 2
      omega
     ·rw[decide_eq_false (fun h=>h8 h.2),if_neg (by decide),if_neg h8]; rfl
    ·rw[decide_eq_false (fun h=>h7 h.1),if_neg (by decide),if_neg h7]
     rfl
end Go.Proofs.YtagokkpnfceidaaGreatDoor
end

section
namespace Go.Proofs.YtagokkpnfceidaaGreatDoor
open Go.RowKit
theorem badI (p:Nat×Nat):(if(((p.1:Nat):Int)==65533)=true then some (((p.2:Nat):Int)==1) else some false:Option Bool)=some (decide (p.1=65533∧p.2=1)):=by
 have a:=eqN p.1 65533
 have b:=eqN p.2 1
 rw[show(65533:Int)=((65533:Nat):Int) from rfl,show(1:Int)=((1:Nat):Int) from rfl,a,b]
 by_cases h1:p.1=65533
 ·rw[beq_iff_eq.2 h1,if_pos rfl]
  by_cases h2:p.2=1
  ·rw[beq_iff_eq.2 h2,decide_eq_true ⟨h1,h2⟩]
  ·rw[beq_eq_false_iff_ne.2 h2,decide_eq_false (fun h=>h2 h.2)]
 ·rw[beq_eq_false_iff_ne.2 h1,if_neg (by decide),decide_eq_false (fun h=>h1 h.1)]
theorem eqC (c:UInt8) (k:Nat) (hk:k<256):((c.toNat:Int)==(k:Int))=decide (c=UInt8.ofNat k):=by
 rw[eqN]
 by_cases h:c.toNat=k
 ·rw[beq_iff_eq.2 h,decide_eq_true]
  apply UInt8.toNat_inj.1
  rw[h,UInt8.toNat_ofNat', Nat.mod_eq_of_lt hk]
 ·rw[beq_eq_false_iff_ne.2 h,decide_eq_false]
  intro e; apply h; rw[e,UInt8.toNat_ofNat', Nat.mod_eq_of_lt hk]
end Go.Proofs.YtagokkpnfceidaaGreatDoor
end

section
namespace Go.Proofs.YtagokkpnfceidaaGreatDoor
open Go.RowKit
def blB (c:UInt8):Bool:=c.toNat==32||(c.toNat==9||(c.toNat==10||c.toNat==13))
theorem rBlank (c:UInt8):Qn0 (c.toNat:Int)=some (blB c):=by
 have a:=eqN c.toNat 32
 have b:=eqN c.toNat 9
 have d:=eqN c.toNat 10
 have e:=eqN c.toNat 13
 rw[Qn0]
 rw[show(32:Int)=((32:Nat):Int) from rfl,show(9:Int)=((9:Nat):Int) from rfl,show(10:Int)=((10:Nat):Int) from rfl,show(13:Int)=((13:Nat):Int) from rfl,a,b,d,e,blB]
 cases (c.toNat==32)<;>cases (c.toNat==9)<;>cases (c.toNat==10)<;>cases (c.toNat==13)<;>rfl
theorem Q1s (s:List UInt8) (k:Nat) (hk:k<s.length) (hs:s.length≤65536) (h:blB s[k]=true):Qdg s k=Qdg s ((k+1:Nat):Int):=by
 rw[Qdg,Qdg,Qdi,ltI,decide_eq_true hk,Qbx (by omega)]
 simp only[if_true,Qad,Qb0,getE hk,rBlank,h]
theorem Q1t (s:List UInt8) (k:Nat) (hk:k<s.length) (h:blB s[k]=false):Qdg s k=some (k:Int):=by
 rw[Qdg,Qdi,ltI,decide_eq_true hk]
 simp only[if_true,Qad,Qb0,getE hk,rBlank,h,Bool.false_eq_true,if_false]
def two (a b:UInt8):List UInt8→Bool
 | c::d::_=>c==a&&d==b
 | _=>false
theorem rBegins2 (a b:UInt8) (s:List UInt8) (k:Nat) (hk:k<s.length) (hs:s.length≤65536):Qcs s [a,b] k=some (two a b (s.drop k)):=by
 have e1:decide ((k:Int) ≥ 0)=true:=decide_eq_true (by omega)
 have e2:decide ((k:Int)≤(s.length:Int))=true:=decide_eq_true (by omega)
 have e3:wr ((s.length:Int)-k)=((s.length-k:Nat):Int):=by rw[wr_in (by omega) (by omega)]; omega
 have e4:wr ((k:Int)+(([a,b]:List UInt8).length:Int))=((k+2:Nat):Int):=by rw[wr_in (by simp; omega) (by simp; omega)]; simp
 rw[Qcs,e1,e2,e3,e4]
 simp only[if_true]
 by_cases h2:2≤s.length-k
 ·have e5:decide (((([a,b]:List UInt8).length:Nat):Int)≤((s.length-k:Nat):Int))=true:=decide_eq_true (by simp; omega)
  rw[e5,Ql0 (by omega) (by omega) (by omega)]
  simp only[if_true,Qad]
  have hk1:k+1<s.length:=by omega
  have e6:(s.take (k+2)).drop k=[s[k],s[k+1]]:=by
   rw[List.drop_take,dropE hk,dropE hk1]
   have:k+2-k=2:=by omega
   rw[this]; rfl
  rw[Int.toNat_natCast,Int.toNat_natCast,e6,dropE hk,dropE hk1]
  rw[List.cons_beq_cons,List.cons_beq_cons]
  show some (s[k]==a&&(s[k+1]==b&&true))=_
  rw[Bool.and_true]; rfl
 ·have e5:decide (((([a,b]:List UInt8).length:Nat):Int)≤((s.length-k:Nat):Int))=false:=decide_eq_false (by simp; omega)
  rw[e5,dropE hk]
  have:s.drop (k+1)=[]:=List.drop_eq_nil_of_le (by omega)
  rw[this]
  rfl
theorem rBegins1 (a:UInt8) (s:List UInt8) (k:Nat) (hk:k<s.length) (hs:s.length≤65536):Qcs s [a] k=some (s[k]==a):=by
 have e1:decide ((k:Int) ≥ 0)=true:=decide_eq_true (by omega)
 have e2:decide ((k:Int)≤(s.length:Int))=true:=decide_eq_true (by omega)
 have e3:wr ((s.length:Int)-k)=((s.length-k:Nat):Int):=by rw[wr_in (by omega) (by omega)]; omega
 have e4:wr ((k:Int)+(([a]:List UInt8).length:Int))=((k+1:Nat):Int):=by rw[wr_in (by simp; omega) (by simp; omega)]; simp
 have e5:decide (((([a]:List UInt8).length:Nat):Int)≤((s.length-k:Nat):Int))=true:=decide_eq_true (by simp; omega)
 rw[Qcs,e1,e2,e3,e4,e5,Ql0 (by omega) (by omega) (by omega)]
 simp only[if_true,Qad]
 have e6:(s.take (k+1)).drop k=[s[k]]:=by
  rw[List.drop_take,dropE hk]
  have:k+1-k=1:=by omega
  rw[this]; rfl
 rw[Int.toNat_natCast,Int.toNat_natCast,e6,List.cons_beq_cons]
 show some (s[k]==a&&true)=_
 rw[Bool.and_true]
theorem eqS (a c:UInt8):(((a.toNat:Nat):Int)==((c.toNat:Nat):Int))=decide (c=a):=by
 rw[eqN]
 by_cases h:c=a
 ·subst h; simp
 ·rw[decide_eq_false h,beq_eq_false_iff_ne]
  intro q
  exact h (UInt8.toNat_inj.1 q.symm)
theorem sgStep (s:List UInt8) (p:Int) (c:UInt8) (j:Nat) (hj:j<5):Qd0 s p c (j:Int) =
  if c=([46,40,41,44,61]:List UInt8)[j] then some (.inr (((7+j:Nat):Int),((7+j:Nat):Int))) else Qd0 s p c ((j+1:Nat):Int):=by
 have e1:decide ((j:Int)<((([46,40,41,44,61]:List Nat).length:Nat):Int))=true:=decide_eq_true (by simp; omega)
 have e2:([7,8,9,10,11]:List Int)[j]? = some ((7+j:Nat):Int):=by
  obtain rfl | rfl | rfl | rfl | rfl:j=0∨j=1∨j=2∨j=3∨j=4:=by omega
  all_goals rfl
 rw[Qd0,e1,Qbx (by omega)]
 simp only[if_true,Qb0,getE (show j<([46,40,41,44,61]:List UInt8).length from hj),Qad,eqS,e2]
 by_cases h:c=([46,40,41,44,61]:List UInt8)[j]
 ·rw[if_pos h,decide_eq_true h]; rfl
 ·rw[if_neg h,decide_eq_false h]; rfl
def sgP (c:UInt8):Option Int:=if c=46 then some 7 else if c=40 then some 8 else if c=41 then some 9 else if c=44 then some 10 else if c=61 then some 11 else none
theorem rSigns (s:List UInt8) (p:Int) (c:UInt8):Qd0 s p c 0=some (match sgP c with | some k =>.inr (k,k) | none =>.inl ()):=by
 have h5:Qd0 s p c ((5:Nat):Int)=some (.inl ()):=by rw[Qd0]; rfl
 rw[show(0:Int)=((0:Nat):Int) from rfl,sgStep s p c 0 (by omega),sgStep s p c 1 (by omega),sgStep s p c 2 (by omega),sgStep s p c 3 (by omega),sgStep s p c 4 (by omega),h5,sgP]
 simp only[List.getElem_cons_zero,List.getElem_cons_succ]
 by_cases a:c=46
 ·subst a; rfl
 by_cases b:c=40
 ·subst b; rfl
 by_cases d:c=41
 ·subst d; rfl
 by_cases e:c=44
 ·subst e; rfl
 by_cases f:c=61
 ·subst f; rfl
 simp only[a,b,d,e,f,if_false]
theorem letOr (c:UInt8):(Qfx (c.toNat:Int)>>=fun x13=>if x13=true then some true else Qfw (c.toNat:Int)>>=fun x15=>if x15=true then some true else some ((c.toNat:Int)==95))=some (letB c):=by
 have e:=eqN c.toNat 95
 rw[rSmall,rDigit,letB]
 simp only[Qad,show((95:Nat):Int)=95 from rfl] at e ⊢
 rw[e]
 cases smallB c<;>cases digB c<;>rfl
theorem contI {c:UInt8} (h:contB c=true):128≤c.toNat∧c.toNat<192:=by simpa [contB] using h
theorem Q1u (c:UInt8) (t:List UInt8) (hc:128≤c.toNat) (hg:¬ ((nextC c t).1=65533∧(nextC c t).2=1)):∃ w rest,c::t=w++rest∧(nextC c t).2=w.length∧2≤w.length∧(∀ b ∈ w,128≤b.toNat)∧128≤(nextC c t).1∧∀ r,nextP (w++r)=nextC c t:=by
 have hn:¬ c.toNat<128:=by omega
 by_cases h2:192≤c.toNat∧c.toNat<224
 ·cases t with
  | nil=>exfalso; apply hg; unfold nextC; rw[if_neg hn,if_pos h2]; exact⟨rfl,rfl⟩
  | cons c1 t =>
   by_cases hk:contB c1=true∧128≤(c.toNat-192)*64+(c1.toNat-128)
   ·have e:∀ r,nextC c (c1::r)=((c.toNat-192)*64+(c1.toNat-128),2):=fun r=>by unfold nextC; rw[if_neg hn,if_pos h2]; simp only; rw[if_pos hk]
    have:=contI hk.1
    refine⟨[c,c1],t,rfl,by rw[e]; rfl,by simp,?_,by rw[e]; exact hk.2,fun r=>(e r).trans (e t).symm⟩
    intro b hb
    simp at hb
    rcases hb with rfl | rfl<;>omega
   ·exfalso; apply hg; unfold nextC; rw[if_neg hn,if_pos h2]; simp only; rw[if_neg hk]; exact⟨rfl,rfl⟩
 by_cases h3:224≤c.toNat∧c.toNat<240
 ·rcases t with _ | ⟨c1,_ | ⟨c2,t⟩⟩
  ·exfalso; apply hg; unfold nextC; rw[if_neg hn,if_neg h2,if_pos h3]; exact⟨rfl,rfl⟩
  ·exfalso; apply hg; unfold nextC; rw[if_neg hn,if_neg h2,if_pos h3]; exact⟨rfl,rfl⟩
  ·by_cases hk:contB c1=true∧contB c2=true∧2048≤((c.toNat-224)*64+(c1.toNat-128))*64+(c2.toNat-128)∧runeB (((c.toNat-224)*64+(c1.toNat-128))*64+(c2.toNat-128))=true
   ·have e:∀ r,nextC c (c1::c2::r)=(((c.toNat-224)*64+(c1.toNat-128))*64+(c2.toNat-128),3):=fun r=>by unfold nextC; rw[if_neg hn,if_neg h2,if_pos h3]; simp only; rw[if_pos hk]
    have:=contI hk.1
    have:=contI hk.2.1
    refine⟨[c,c1,c2],t,rfl,by rw[e]; rfl,by simp,?_,by rw[e]; have:=hk.2.2.1; simp only; omega,fun r=>(e r).trans (e t).symm⟩
    intro b hb
    simp at hb
    rcases hb with rfl | rfl | rfl<;>omega
   ·exfalso; apply hg; unfold nextC; rw[if_neg hn,if_neg h2,if_pos h3]; simp only; rw[if_neg hk]; exact⟨rfl,rfl⟩
 by_cases h4:240≤c.toNat∧c.toNat<248
 ·rcases t with _ | ⟨c1,_ | ⟨c2,_ | ⟨c3,t⟩⟩⟩
  ·exfalso; apply hg; unfold nextC; rw[if_neg hn,if_neg h2,if_neg h3,if_pos h4]; exact⟨rfl,rfl⟩
  ·exfalso; apply hg; unfold nextC; rw[if_neg hn,if_neg h2,if_neg h3,if_pos h4]; exact⟨rfl,rfl⟩
  ·exfalso; apply hg; unfold nextC; rw[if_neg hn,if_neg h2,if_neg h3,if_pos h4]; exact⟨rfl,rfl⟩
  ·by_cases hk:contB c1=true∧contB c2=true∧contB c3=true∧65536≤(((c.toNat-240)*64+(c1.toNat-128))*64+(c2.toNat-128))*64+(c3.toNat-128)∧runeB ((((c.toNat-240)*64+(c1.toNat-128))*64+(c2.toNat-128))*64+(c3.toNat-128))=true
   ·have e:∀ r,nextC c (c1::c2::c3::r)=((((c.toNat-240)*64+(c1.toNat-128))*64+(c2.toNat-128))*64+(c3.toNat-128),4):=fun r=>by unfold nextC; rw[if_neg hn,if_neg h2,if_neg h3,if_pos h4]; simp only; rw[if_pos hk]
    have:=contI hk.1
    have:=contI hk.2.1
    have:=contI hk.2.2.1
    refine⟨[c,c1,c2,c3],t,rfl,by rw[e]; rfl,by simp,?_,by rw[e]; have:=hk.2.2.2.1; simp only; omega,fun r=>(e r).trans (e t).symm⟩
    intro b hb
    simp at hb
    rcases hb with rfl | rfl | rfl | rfl<;>omega
   ·exfalso; apply hg; unfold nextC; rw[if_neg hn,if_neg h2,if_neg h3,if_pos h4]; simp only; rw[if_neg hk]; exact⟨rfl,rfl⟩
 ·exfalso; apply hg; unfold nextC; rw[if_neg hn,if_neg h2,if_neg h3,if_neg h4]; exact⟨rfl,rfl⟩
end Go.Proofs.YtagokkpnfceidaaGreatDoor
end

section
namespace Go.Proofs.YtagokkpnfceidaaGreatDoor
open Go.RowKit
def blN (l:List UInt8):Nat:=(l.takeWhile blB).length
theorem Qyc (c:UInt8) (r:List UInt8):blN (c::r)=if blB c then 1+blN r else 0:=by
 unfold blN
 rw[List.takeWhile_cons]
 split
 ·rw[List.length_cons]; omega
 ·rfl
theorem Qpk:∀ l:List UInt8,blN l≤l.length
 | []=>Nat.le_refl _
 | c::r=>by
  have:=Qpk r
  rw[Qyc,List.length_cons]; split<;>omega
theorem rBl (s:List UInt8) (hs:s.length≤65536):∀ k,k≤s.length→Qdg s k=some ((k+blN (s.drop k):Nat):Int):=by
 refine upto ?_ fun k hk ih=>?_
 ·rw[Qdg,Qdi,ltI,decide_eq_false (by omega),if_neg (by decide),Qad,if_neg (by decide),Qad,List.drop_length]; rfl
 ·rw[dropE hk,Qyc]
  by_cases hb:blB s[k]=true
  ·rw[Q1s s k hk hs hb,ih,if_pos hb,Nat.add_assoc]
  ·rw[Q1t s k hk (by simpa using hb),if_neg hb]; rfl
theorem blC (c:UInt8):([32,9,10,13]:List UInt8).contains c=blB c:=by
 have e:∀ d:UInt8,(c==d)=(c.toNat==d.toNat):=fun d=>by
  rw[Bool.eq_iff_iff,beq_iff_eq,beq_iff_eq]
  exact⟨fun h=>by rw[h],fun h=>UInt8.toNat_inj.1 h⟩
 rw[List.contains_cons,List.contains_cons,List.contains_cons,List.contains_cons,List.contains_nil,e,e,e,e,Bool.or_false]
 rfl
theorem trimN:∀ l:List UInt8,(Lib.trimLeftS l [32,9,10,13]).length=l.length-blN l
 | []=>rfl
 | c::r=>by
  have ih:=trimN r
  have hle:=Qpk r
  unfold Lib.trimLeftS at ih ⊢
  rw[List.dropWhile_cons,blC,Qyc,List.length_cons]
  split
  ·rw[ih]; omega
  ·rw[List.length_cons]; omega
theorem lBl (s:List UInt8) (k:Nat) (hk:k≤s.length) (hs:s.length≤65536) (toks:List Qac):Qcj s k toks=some ((k+blN (s.drop k):Nat):Int):=by
 have h:=trimN (s.drop k)
 have hle:=Qpk (s.drop k)
 rw[List.length_drop] at h hle
 rw[Qcj,Ql0 (by omega) (by omega) (by omega),Qad,Qf7,Qgz (by decide),Qad,Qgz (by decide),Qad,Qad]
 have e:(s.take (s.length:Int).toNat).drop ((k:Int)).toNat=s.drop k:=by simp
 rw[e,h,wr_in (by omega) (by omega)]
 congr 1
 omega
def fnd (a b:UInt8):List UInt8→Nat
 | []=>0
 | c::r=>if two a b (c::r) then 0 else 1+fnd a b r
theorem Quz (a b:UInt8):∀ l:List UInt8,fnd a b l≤l.length
 | []=>Nat.le_refl _
 | c::r=>by
  have:=Quz a b r
  rw[fnd,List.length_cons]; split<;>omega
theorem Qyd {a b:UInt8} {l:List UInt8} (h:two a b l=true):2≤l.length:=by
 match l,h with
 | c::d::r,_=>simp
theorem Q6x (a b:UInt8):∀ l:List UInt8,fnd a b l<l.length→two a b (l.drop (fnd a b l))=true
 | [],h=>by simp at h
 | c::r,h=>by
  rw[fnd] at h ⊢
  by_cases ht:two a b (c::r)=true
  ·rw[if_pos ht]; exact ht
  ·rw[if_neg ht,List.length_cons] at h
   rw[if_neg ht,Nat.add_comm,List.drop_succ_cons]
   exact Q6x a b r (by omega)
theorem rFnd (a b:UInt8) (s:List UInt8) (hs:s.length≤65536):∀ k,k≤s.length→Qmi s [a,b] k=some ((k+fnd a b (s.drop k):Nat):Int):=by
 have key:∀ k,k≤s.length→Qfe s [a,b] k=some ((k+fnd a b (s.drop k):Nat):Int):=by
  refine upto ?_ fun k hk ih=>?_
  ·rw[Qfe,ltI,decide_eq_false (by omega),if_neg (by decide),Qad,if_neg (by decide),List.drop_length]; rfl
  ·rw[Qfe,ltI,decide_eq_true hk,if_pos rfl,rBegins2 a b s k hk hs,Qad,Qbx (by omega),ih,dropE hk,fnd]
   cases two a b (s[k]::s.drop (k+1)) with
   | true=>rfl
   | false =>
    rw[Qad,Bool.not_false,if_pos rfl,if_neg (by decide),Nat.add_assoc]
 intro k hk
 rw[Qmi,key k hk]; rfl
theorem preTwo (a b:UInt8) (l:List UInt8):[a,b].isPrefixOf l=two a b l:=by
 match l with
 | []=>rfl
 | [c]=>simp[List.isPrefixOf,two]
 | c::d::r =>
  show(a==c&&(b==d&&true))=(c==a&&d==b)
  rw[Bool.and_true,Bool.beq_comm (a:=a),Bool.beq_comm (a:=b)]
theorem lIdx (a b:UInt8):∀ l:List UInt8,Lib.index l [a,b]=if fnd a b l<l.length then(fnd a b l:Int) else -1
 | []=>rfl
 | c::r=>by
  have ih:=lIdx a b r
  have hle:=Quz a b r
  unfold Lib.index
  rw[preTwo,ih,fnd,List.length_cons]
  by_cases ht:two a b (c::r)=true
  ·rw[if_pos ht,if_pos ht,if_pos (by omega)]; rfl
  ·rw[if_neg ht,if_neg ht]
   by_cases hf:fnd a b r<r.length
   ·have h1:(((fnd a b r:Nat):Int) == -1)=false:=by rw[beq_eq_false_iff_ne]; omega
    rw[if_pos hf,h1,if_neg (show ¬ (false=true) by decide),if_pos (show 1+fnd a b r<r.length+1 by omega)]
    omega
   ·rw[if_neg hf,if_pos (show((-1:Int) == -1)=true from rfl),if_neg (show ¬ 1+fnd a b r<r.length+1 by omega)]
theorem rBeg2 (a b:UInt8) (s:List UInt8) (k:Nat) (hk:k≤s.length) (hs:s.length≤65536):Qcs s [a,b] k=some (two a b (s.drop k)):=by
 rcases Nat.lt_or_ge k s.length with h | h
 ·exact rBegins2 a b s k h hs
 ·have e:k=s.length:=by omega
  have e3:wr ((s.length:Int)-k)=0:=by rw[wr_in (by omega) (by omega)]; omega
  rw[Qcs,decide_eq_true (by omega),if_pos rfl,decide_eq_true (by omega),if_pos rfl,e3,List.drop_eq_nil_of_le h]
  rfl
def oneB (a:UInt8):List UInt8→Bool
 | c::_=>c==a
 | []=>false
theorem rBeg1 (a:UInt8) (s:List UInt8) (k:Nat) (hk:k≤s.length) (hs:s.length≤65536):Qcs s [a] k=some (oneB a (s.drop k)):=by
 rcases Nat.lt_or_ge k s.length with h | h
 ·rw[rBegins1 a s k h hs,dropE h]; rfl
 ·have e3:wr ((s.length:Int)-k)=0:=by rw[wr_in (by omega) (by omega)]; omega
  rw[Qcs,decide_eq_true (by omega),if_pos rfl,decide_eq_true (by omega),if_pos rfl,e3,List.drop_eq_nil_of_le h]
  rfl
theorem lBeg (s p:List UInt8) (k:Nat) (hk:k≤s.length) (hs:s.length≤65536) (hp:p.length≤65536):Qd6 s p k=some ((s.drop k).take p.length==p&&decide (p.length≤s.length-k)):=by
 have e:(s.take (s.length:Int).toNat).drop ((k:Int)).toNat=s.drop k:=by simp
 rw[Qd6,decide_eq_true (by omega),if_pos rfl,decide_eq_true (by omega),if_pos rfl,Ql0 (by omega) (by omega) (by omega),Qad,e,strings_HasPrefix,Qb5]
 by_cases h:p.length≤s.length-k
 ·rw[decide_eq_true (by rw[List.length_drop]; omega),if_pos rfl,Ql0 (by omega) (by omega) (by rw[List.length_drop]; omega),decide_eq_true h]
  simp
 ·rw[decide_eq_false (by rw[List.length_drop]; omega),if_neg (by decide),decide_eq_false h,Bool.and_false]
  rfl
theorem lBeg2 (a b:UInt8) (s:List UInt8) (k:Nat) (hk:k≤s.length) (hs:s.length≤65536):Qd6 s [a,b] k=some (two a b (s.drop k)):=by
 rw[lBeg s [a,b] k hk hs (by simp)]
 have hl:(s.drop k).length=s.length-k:=List.length_drop
 generalize s.drop k=l at hl
 rw[← hl]
 match l with
 | []=>rfl
 | [c]=>simp[two]
 | c::d::r =>
  congr 1
  rw[decide_eq_true (by simp),Bool.and_true]
  show([c,d]==[a,b])=_
  rw[List.cons_beq_cons,List.cons_beq_cons]
  show(c==a&&(d==b&&true))=_
  rw[Bool.and_true]; rfl
theorem lBeg1 (a:UInt8) (s:List UInt8) (k:Nat) (hk:k≤s.length) (hs:s.length≤65536):Qd6 s [a] k=some (oneB a (s.drop k)):=by
 rw[lBeg s [a] k hk hs (by simp)]
 have hl:(s.drop k).length=s.length-k:=List.length_drop
 generalize s.drop k=l at hl
 rw[← hl]
 match l with
 | []=>rfl
 | c::r =>
  congr 1
  rw[decide_eq_true (by simp),Bool.and_true]
  show([c]==[a])=_
  rw[List.cons_beq_cons]
  show(c==a&&true)=_
  rw[Bool.and_true]; rfl
def escP (c:UInt8):Option UInt8:=if c=110 then some 10 else if c=116 then some 9 else if c=34∨c=92 then some c else none
abbrev badR (l:List UInt8):Prop:=(nextP l).1=10∨(nextP l).1=13∨((nextP l).1=65533∧(nextP l).2=1)
def escR (f:List UInt8→Option (List UInt8×Nat)):List UInt8→Option (List UInt8×Nat)
 | []=>none
 | d::r=>match escP d with
  | some e=>(f r).map fun q=>(e::q.1,q.2+2)
  | none=>none
def quoP:Nat→List UInt8→Option (List UInt8×Nat)
 | 0,_=>none
 | _+1,[]=>none
 | n+1,c::r =>
  if c=34 then some ([],1)
  else if c=92 then escR (quoP n) r
  else if badR (c::r) then none
  else(quoP n ((c::r).drop (nextP (c::r)).2)).map fun q=>((c::r).take (nextP (c::r)).2++q.1,(nextP (c::r)).2+q.2)
theorem Qfz (n:Nat) (c:UInt8) (r:List UInt8):quoP (n+1) (c::r)=if c=34 then some ([],1) else if c=92 then escR (quoP n) r else if badR (c::r) then none
  else(quoP n ((c::r).drop (nextP (c::r)).2)).map fun q=>((c::r).take (nextP (c::r)).2++q.1,(nextP (c::r)).2+q.2):=rfl
theorem Qr1:∀ (n:Nat) (l:List UInt8) (q:List UInt8×Nat),quoP n l=some q→1≤q.2∧q.2≤l.length∧q.1.length≤l.length
 | 0,l,q,h=>by simp[quoP] at h
 | n+1,[],q,h=>by simp[quoP] at h
 | n+1,c::r,q,h=>by
  rw[Qfz] at h
  split at h
  ·cases h; simp
  ·split at h
   ·cases r with
    | nil=>cases h
    | cons d r' =>
     rw[escR] at h
     split at h
     ·obtain⟨q', h1,rfl⟩:=Option.map_eq_some_iff.1 h
      have:=Qr1 n r' q' h1
      simp only[List.length_cons] at this ⊢
      omega
     ·cases h
   ·split at h
    ·cases h
    ·obtain⟨q', h1,rfl⟩:=Option.map_eq_some_iff.1 h
     obtain⟨z1,z2⟩:=Qr0 (c::r) (List.cons_ne_nil _ _)
     have:=Qr1 n _ q' h1
     rw[List.length_drop] at this
     simp only[List.length_append,List.length_take]
     omega
theorem badT (l:List UInt8):(if((((nextP l).1:Nat):Int)==10)=true then some true else if((((nextP l).1:Nat):Int)==13)=true then some true else if((((nextP l).1:Nat):Int)==65533)=true then some ((((nextP l).2:Nat):Int)==1) else some false:Option Bool)=some (decide (badR l)):=by
 have h:=badI (nextP l)
 rw[h]
 have a:=eqN (nextP l).1 10
 have b:=eqN (nextP l).1 13
 rw[show(10:Int)=((10:Nat):Int) from rfl,show(13:Int)=((13:Nat):Int) from rfl,a,b]
 unfold badR
 by_cases h1:(nextP l).1=10
 ·rw[beq_iff_eq.2 h1,if_pos rfl,decide_eq_true (.inl h1)]
 ·rw[beq_eq_false_iff_ne.2 h1,if_neg (by decide)]
  by_cases h2:(nextP l).1=13
  ·rw[beq_iff_eq.2 h2,if_pos rfl,decide_eq_true (.inr (.inl h2))]
  ·rw[beq_eq_false_iff_ne.2 h2,if_neg (by decide)]
   by_cases h3:(nextP l).1=65533∧(nextP l).2=1
   ·rw[decide_eq_true h3,decide_eq_true (.inr (.inr h3))]
   ·rw[decide_eq_false h3,decide_eq_false (fun h=>by rcases h with h | h | h; exact h1 h; exact h2 h; exact h3 h)]
theorem cutN {s:List UInt8} {k m:Nat} (h:k+m≤s.length):cutL s k ((k+m:Nat):Int)=some ((s.drop k).take m):=by
 rw[Ql0 (by omega) (by omega) (by omega),Int.toNat_natCast,Int.toNat_natCast,List.drop_take,Nat.add_sub_cancel_left]
theorem r92 (c:UInt8) (r:List UInt8):(((nextP (c::r)).1:Nat):Int)==92↔c=92:=by
 rw[beq_iff_eq]
 constructor
 ·intro h
  by_cases hc:c.toNat<128
  ·have e:nextP (c::r)=(c.toNat,1):=by rw[nextP]; unfold nextC; rw[if_pos hc]
   rw[e] at h
   exact UInt8.toNat_inj.1 (show c.toNat=92 from Int.ofNat.inj h)
  ·exfalso
   by_cases hb:(nextC c r).1=65533∧(nextC c r).2=1
   ·have:(nextP (c::r)).1=65533:=hb.1
    omega
   ·obtain⟨w,rest,-,-,-,-,hv,-⟩:=Q1u c r (by omega) hb
    have:128≤(nextP (c::r)).1:=hv
    omega
 ·rintro rfl; rfl
theorem escL (c:UInt8):Qkc (c.toNat:Int)=some (match escP c with | some e=>((e.toNat:Int),true) | none=>((c.toNat:Int),false)):=by
 have a:((c.toNat:Int)==110)=decide (c=110):=eqC c 110 (by omega)
 have b:((c.toNat:Int)==116)=decide (c=116):=eqC c 116 (by omega)
 have d:((c.toNat:Int)==34)=decide (c=34):=eqC c 34 (by omega)
 have e:((c.toNat:Int)==92)=decide (c=92):=eqC c 92 (by omega)
 rw[Qkc,a,b,d,e]
 unfold escP
 by_cases h1:c=110
 ·subst h1; rfl
 by_cases h2:c=116
 ·subst h2; rfl
 rw[decide_eq_false h1,decide_eq_false h2,if_neg h1,if_neg h2]
 by_cases h3:c=34
 ·subst h3; rfl
 by_cases h4:c=92
 ·subst h4; rfl
 rw[decide_eq_false h3,decide_eq_false h4,if_neg (show ¬ (c=34∨c=92) by rintro (h | h); exact h3 h; exact h4 h)]
 rfl
theorem lQuoL (s:List UInt8) (hs:s.length≤65536) (at0:Int) (toks:List Qac) (fl:Bool):∀ (n k:Nat) (acc:List UInt8),k≤s.length→s.length-k<n→acc.length≤k →
  ∃ o,Qbf s at0 toks k fl (s2b acc)=some o∧(match quoP n (s.drop k) with
   | some q=>∃ f,o = .inl (((k+q.2-1:Nat):Int),f,s2b (acc++q.1))
   | none=>(∃ y,o = .inr y)∨∃ f b,o = .inl ((s.length:Int),f,b)):=by
 intro n
 induction n generalizing fl with
 | zero=>intro k acc h1 h2; omega
 | succ n ih =>
  intro k acc h1 h2 h3
  rcases Nat.lt_or_ge k s.length with hk | hk
  ·have hne:s.drop k≠[]:=by rw[dropE hk]; exact List.cons_ne_nil _ _
   obtain⟨z1,z2⟩:=Qr0 _ hne
   rw[List.length_drop] at z2
   have e34:((s[k].toNat:Int) != 34) = !decide (s[k]=34):=by
    have:((s[k].toNat:Int)==34)=decide (s[k]=34):=eqC s[k] 34 (by omega)
    rw[bne,this]
   have ew:wr ((k:Int)+((nextP (s.drop k)).2:Int))=((k+(nextP (s.drop k)).2:Nat):Int):=by rw[wr_in (by omega) (by omega)]; rfl
   have ew2:wr ((k:Int)+2)=((k+2:Nat):Int):=by rw[wr_in (by omega) (by omega)]; rfl
   rw[Qbf,ltI,decide_eq_true hk,if_pos rfl,Qb0,getE hk,Qad,Qad,e34]
   by_cases h34:s[k]=34
   ·rw[decide_eq_true h34,Bool.not_true,if_neg (by decide)]
    refine⟨_,rfl,?_⟩
    rw[dropE hk,Qfz,if_pos h34]
    exact⟨fl,by simp⟩
   ·rw[decide_eq_false h34,Bool.not_false,if_pos rfl,tNext s k hk (by omega),Qad]
    have hr92:=r92 s[k] (s.drop (k+1))
    rw[← dropE hk] at hr92
    by_cases h92:s[k]=92
    ·rw[if_pos (hr92.2 h92),Qbx (by omega)]
     rcases Nat.lt_or_ge (k+1) s.length with hk1 | hk1
     ·have en:(((k+1:Nat):Int)==(s.length:Int))=false:=beq_eq_false_iff_ne.2 (by omega)
      have hd:s.drop k=92::s[k+1]::s.drop (k+2):=by rw[dropE hk,dropE hk1,h92]
      rw[en,if_neg (by decide),Qb0,getE hk1,Qad,escL,Qad,hd,Qfz,if_neg (show ¬ (92:UInt8)=34 by decide),if_pos rfl,escR]
      cases hE:escP s[k+1] with
      | none =>
       simp only[Bool.not_false,if_true]
       exact⟨_,rfl,.inl ⟨_,rfl⟩⟩
      | some e =>
       simp only[Bool.not_true,Bool.false_eq_true,if_false]
       have hwb:Qbz (e.toNat:Int) fl (s2b acc)=some ((),true,s2b (acc++[e])):=by
        rw[Qbz,Qbg,Qad,Qgc (by rw[Qlb]; simp; omega) (by rw[Qlb]; simp; omega),Qad,Q1o]
        rfl
       rw[hwb,Qad,ew2]
       obtain⟨o,o1,o2⟩:=ih true (k+2) (acc++[e]) (by omega) (by omega) (by simp; omega)
       refine⟨o,o1,?_⟩
       cases hq:quoP n (s.drop (k+2)) with
       | none=>rw[hq] at o2; exact o2
       | some q =>
        rw[hq] at o2
        obtain⟨f,o2⟩:=o2
        obtain⟨q1,-⟩:=Qr1 n _ q hq
        refine⟨f,?_⟩
        rw[o2]
        simp only[Option.map_some,List.append_assoc,List.singleton_append]
        congr 3
        omega
     ·have en:(((k+1:Nat):Int)==(s.length:Int))=true:=beq_iff_eq.2 (by omega)
      rw[en,if_pos rfl]
      refine⟨_,rfl,?_⟩
      have hd:s.drop k=[92]:=by rw[dropE hk,h92,List.drop_eq_nil_of_le (by omega)]
      rw[hd,Qfz,if_neg (show ¬ (92:UInt8)=34 by decide),if_pos rfl]
      exact .inl ⟨_,rfl⟩
    ·rw[if_neg (fun h=>h92 (hr92.1 h))]
     simp only
     rw[badT (s.drop k),Qad]
     have hq:quoP (n+1) (s.drop k)=if badR (s.drop k) then none else(quoP n ((s.drop k).drop (nextP (s.drop k)).2)).map fun q=>((s.drop k).take (nextP (s.drop k)).2++q.1,(nextP (s.drop k)).2+q.2):=by
      generalize hg:s.drop k=l
      rw[dropE hk] at hg
      subst hg
      rw[Qfz,if_neg h34,if_neg h92]
     rw[hq]
     by_cases hb:badR (s.drop k)
     ·rw[decide_eq_true hb,if_pos rfl,if_pos hb]
      exact⟨_,rfl,.inl ⟨_,rfl⟩⟩
     ·rw[decide_eq_false hb,if_neg (by decide),if_neg hb,ew,cutN (by omega),Qad]
      have hws:Qbn ((s.drop k).take (nextP (s.drop k)).2) fl (s2b acc)=some (((((s.drop k).take (nextP (s.drop k)).2).length:Nat):Int),(),true,s2b (acc++(s.drop k).take (nextP (s.drop k)).2)):=by
       have hl:((s.drop k).take (nextP (s.drop k)).2).length≤s.length-k:=by rw[List.length_take,List.length_drop]; omega
       rw[Qbn,Qbg,Qad,Qgc (by rw[Qlb,Qlb]; omega) (by rw[Qlb,Qlb]; omega),Qad,Q1o]
      rw[hws,Qad,List.drop_drop]
      obtain⟨o,o1,o2⟩:=ih true (k+(nextP (s.drop k)).2) (acc++(s.drop k).take (nextP (s.drop k)).2) (by omega) (by omega) (by rw[List.length_append,List.length_take]; omega)
      refine⟨o,o1,?_⟩
      cases hq:quoP n (s.drop (k+(nextP (s.drop k)).2)) with
      | none=>rw[hq] at o2; exact o2
      | some q =>
       rw[hq] at o2
       obtain⟨f,o2⟩:=o2
       obtain⟨q1,-⟩:=Qr1 n _ q hq
       refine⟨f,?_⟩
       rw[o2]
       simp only[List.append_assoc]
       congr 3
       omega
  ·rw[Qbf,ltI,decide_eq_false (by omega),if_neg (by decide),Qad,if_neg (by decide),List.drop_eq_nil_of_le hk,quoP]
   refine⟨_,rfl,.inr ⟨fl,s2b acc,?_⟩⟩
   have:k=s.length:=by omega
   rw[this]
theorem rQuoL (s:List UInt8) (hs:s.length≤65536):∀ (n k:Nat) (acc:List UInt8),k≤s.length→s.length-k<n→acc.length≤k →
  ∃ o,Qcb s k acc=some o∧(match quoP n (s.drop k) with
   | some q=>o = .inr (acc++q.1,((k+q.2:Nat):Int))
   | none=>o = .inl ()∨o = .inr ([],-1)):=by
 intro n
 induction n with
 | zero=>intro k acc h1 h2; omega
 | succ n ih =>
  intro k acc h1 h2 h3
  rcases Nat.lt_or_ge k s.length with hk | hk
  ·have hne:s.drop k≠[]:=by rw[dropE hk]; exact List.cons_ne_nil _ _
   obtain⟨z1,z2⟩:=Qr0 _ hne
   rw[List.length_drop] at z2
   have e34:((s[k].toNat:Int)==34)=decide (s[k]=34):=eqC s[k] 34 (by omega)
   have e92:((s[k].toNat:Int)==92)=decide (s[k]=92):=eqC s[k] 92 (by omega)
   have ew:wr ((k:Int)+((nextP (s.drop k)).2:Int))=((k+(nextP (s.drop k)).2:Nat):Int):=by rw[wr_in (by omega) (by omega)]; rfl
   have ew2:wr ((k:Int)+2)=((k+2:Nat):Int):=by rw[wr_in (by omega) (by omega)]; rfl
   rw[Qcb,ltI,decide_eq_true hk,if_pos rfl,Qb0,getE hk,Qad,e34]
   by_cases h34:s[k]=34
   ·rw[decide_eq_true h34,if_pos rfl,Qbx (by omega)]
    refine⟨_,rfl,?_⟩
    rw[dropE hk,Qfz,if_pos h34]
    simp
   ·rw[decide_eq_false h34,if_neg (by decide),Qad,e92]
    by_cases h92:s[k]=92
    ·rw[decide_eq_true h92,if_pos rfl,Qbx (by omega)]
     rcases Nat.lt_or_ge (k+1) s.length with hk1 | hk1
     ·have en:(((k+1:Nat):Int)==(s.length:Int))=false:=beq_eq_false_iff_ne.2 (by omega)
      have hd:s.drop k=92::s[k+1]::s.drop (k+2):=by rw[dropE hk,dropE hk1,h92]
      have a:((s[k+1].toNat:Int)==110)=decide (s[k+1]=110):=eqC _ 110 (by omega)
      have b:((s[k+1].toNat:Int)==116)=decide (s[k+1]=116):=eqC _ 116 (by omega)
      have d:((s[k+1].toNat:Int)==34)=decide (s[k+1]=34):=eqC _ 34 (by omega)
      have e:((s[k+1].toNat:Int)==92)=decide (s[k+1]=92):=eqC _ 92 (by omega)
      rw[en,if_neg (by decide),Qb0,getE hk1,Qad,Qad,a,b,d,e,ew2,hd,Qfz,if_neg (show ¬ (92:UInt8)=34 by decide),if_pos rfl]
      have step:∀ (x:UInt8),escP s[k+1]=some x→(∃ o,Qcb s ((k+2:Nat):Int) (acc++[x])=some o∧(match escR (quoP n) (s[k+1]::s.drop (k+2)) with
        | some q=>o = .inr (acc++q.1,((k+q.2:Nat):Int))
        | none=>o = .inl ()∨o = .inr ([],-1))):=fun x hx=>by
       obtain⟨o,o1,o2⟩:=ih (k+2) (acc++[x]) (by omega) (by omega) (by simp; omega)
       refine⟨o,o1,?_⟩
       rw[escR,hx]
       simp only
       cases hq:quoP n (s.drop (k+2)) with
       | none=>rw[hq] at o2; exact o2
       | some q =>
        rw[hq] at o2
        simp only[Option.map_some]
        rw[o2,List.append_assoc,List.singleton_append]
        congr 3
        omega
      by_cases c1:s[k+1]=110
      ·rw[decide_eq_true c1,if_pos rfl,Qgz (by simp; omega),Qad]
       exact step 10 (by unfold escP; rw[if_pos c1])
      by_cases c2:s[k+1]=116
      ·rw[decide_eq_false c1,if_neg (by decide),decide_eq_true c2,if_pos rfl,Qgz (by simp; omega),Qad]
       exact step 9 (by unfold escP; rw[if_neg c1,if_pos c2])
      rw[decide_eq_false c1,if_neg (by decide),decide_eq_false c2,if_neg (by decide)]
      have e12:((k+2:Nat):Int)=((k+1+1:Nat):Int):=rfl
      have hc:cutL s ((k+1:Nat):Int) ((k+2:Nat):Int)=some [s[k+1]]:=by
       rw[e12,cutN (by omega),dropE hk1]; rfl
      by_cases c3:s[k+1]=34∨s[k+1]=92
      ·have:(if decide (s[k+1]=34)=true then some true else some (decide (s[k+1]=92)):Option Bool)=some true:=by
        rcases c3 with c3 | c3
        ·rw[decide_eq_true c3,if_pos rfl]
        ·rw[decide_eq_true c3]; split<;>rfl
       rw[this,Qad,if_pos rfl,hc,Qad,Qgz (by simp; omega),Qad]
       exact step s[k+1] (by unfold escP; rw[if_neg c1,if_neg c2,if_pos c3])
      ·have:(if decide (s[k+1]=34)=true then some true else some (decide (s[k+1]=92)):Option Bool)=some false:=by
        rw[decide_eq_false (fun h=>c3 (.inl h)),if_neg (by decide),decide_eq_false (fun h=>c3 (.inr h))]
       have hE:escP s[k+1]=none:=by unfold escP; rw[if_neg c1,if_neg c2,if_neg c3]
       rw[this,Qad,if_neg (by decide),escR,hE]
       exact⟨_,rfl,.inr rfl⟩
     ·have en:(((k+1:Nat):Int)==(s.length:Int))=true:=beq_iff_eq.2 (by omega)
      rw[en,if_pos rfl]
      refine⟨_,rfl,?_⟩
      have hd:s.drop k=[92]:=by rw[dropE hk,h92,List.drop_eq_nil_of_le (by omega)]
      rw[hd,Qfz,if_neg (show ¬ (92:UInt8)=34 by decide),if_pos rfl]
      exact .inr rfl
    ·rw[decide_eq_false h92,if_neg (by decide),rNext s k hk (by omega),Qad]
     simp only
     rw[badT (s.drop k),Qad]
     have hq:quoP (n+1) (s.drop k)=if badR (s.drop k) then none else(quoP n ((s.drop k).drop (nextP (s.drop k)).2)).map fun q=>((s.drop k).take (nextP (s.drop k)).2++q.1,(nextP (s.drop k)).2+q.2):=by
      generalize hg:s.drop k=l
      rw[dropE hk] at hg
      subst hg
      rw[Qfz,if_neg h34,if_neg h92]
     rw[hq]
     by_cases hb:badR (s.drop k)
     ·rw[decide_eq_true hb,if_pos rfl,if_pos hb]
      exact⟨_,rfl,.inr rfl⟩
     ·rw[decide_eq_false hb,if_neg (by decide),if_neg hb,ew,cutN (by omega),Qad,Qgz (by rw[List.length_take,List.length_drop]; omega),Qad,List.drop_drop]
      obtain⟨o,o1,o2⟩:=ih (k+(nextP (s.drop k)).2) (acc++(s.drop k).take (nextP (s.drop k)).2) (by omega) (by omega) (by rw[List.length_append,List.length_take]; omega)
      refine⟨o,o1,?_⟩
      cases hq:quoP n (s.drop (k+(nextP (s.drop k)).2)) with
      | none=>rw[hq] at o2; exact o2
      | some q =>
       rw[hq] at o2
       simp only[Option.map_some]
       rw[o2,List.append_assoc,Nat.add_assoc]
  ·rw[Qcb,ltI,decide_eq_false (by omega),if_neg (by decide),List.drop_eq_nil_of_le hk,quoP]
   exact⟨_,rfl,.inl rfl⟩
end Go.Proofs.YtagokkpnfceidaaGreatDoor
end

section
namespace Go.Proofs.YtagokkpnfceidaaGreatDoor
open Go.RowKit
def run (p:UInt8→Bool) (l:List UInt8):Nat:=(l.takeWhile p).length
theorem Qoy (p:UInt8→Bool) (c:UInt8) (r:List UInt8):run p (c::r)=if p c then 1+run p r else 0:=by
 unfold run
 rw[List.takeWhile_cons]
 split
 ·rw[List.length_cons]; omega
 ·rfl
theorem Qu0 (p:UInt8→Bool):∀ l:List UInt8,run p l≤l.length
 | []=>Nat.le_refl _
 | c::r=>by
  have:=Qu0 p r
  rw[Qoy,List.length_cons]; split<;>omega
theorem lRunD (s:List UInt8) (hs:s.length≤65536) (a:Int) (toks:List Qac):∀ k,k≤s.length→Qay s a toks k=some ((k+run digB (s.drop k):Nat):Int):=by
 refine upto ?_ fun k hk ih=>?_
 ·rw[Qay,ltI,decide_eq_false (by omega),if_neg (by decide),Qad,if_neg (by decide),List.drop_length]; rfl
 ·rw[Qay,ltI,decide_eq_true hk,if_pos rfl,Qbx (by omega),Qb0,getE hk,Qad,lDigit,Qad,Qad,ih,dropE hk,Qoy]
  cases digB s[k] with
  | true=>rw[if_pos rfl,if_pos rfl,Nat.add_assoc]
  | false=>rfl
theorem lRunL (s:List UInt8) (hs:s.length≤65536) (a:Int) (toks:List Qac):∀ k,k≤s.length→Qav s a toks k=some ((k+run letB (s.drop k):Nat):Int):=by
 refine upto ?_ fun k hk ih=>?_
 ·rw[Qav,ltI,decide_eq_false (by omega),if_neg (by decide),Qad,if_neg (by decide),List.drop_length]; rfl
 ·rw[Qav,ltI,decide_eq_true hk,if_pos rfl,Qbx (by omega),Qb0,getE hk,Qad,lLetter,Qad,Qad,ih,dropE hk,Qoy]
  cases letB s[k] with
  | true=>rw[if_pos rfl,if_pos rfl,Nat.add_assoc]
  | false=>rfl
theorem rRunL (s:List UInt8) (hs:s.length≤65536) (p:Int):∀ k,k≤s.length→Qgw s p k=some ((k+run letB (s.drop k):Nat):Int):=by
 refine upto ?_ fun k hk ih=>?_
 ·rw[Qgw,ltI,decide_eq_false (by omega),if_neg (by decide),Qad,if_neg (by decide),List.drop_length]; rfl
 ·have hl:=letOr s[k]
  rw[Qgw,ltI,decide_eq_true hk,if_pos rfl,Qbx (by omega)]
  simp only[Qb0,getE hk,Qad]
  rw[show(Qfx (s[k].toNat:Int)>>=fun x13=>if x13=true then some true else Qfw (s[k].toNat:Int)>>=fun x15=>if x15=true then some true else some ((s[k].toNat:Int)==95))=some (letB s[k]) from hl,ih,dropE hk,Qoy]
  cases letB s[k] with
  | true=>rw[Qad,if_pos rfl,if_pos rfl,Nat.add_assoc]
  | false=>rfl
theorem rRunD (s:List UInt8) (hs:s.length≤65536) (p:Int):∀ k,k≤s.length→Qgx s p k=some ((k+run digB (s.drop k):Nat):Int):=by
 refine upto ?_ fun k hk ih=>?_
 ·rw[Qgx,ltI,decide_eq_false (by omega),if_neg (by decide),Qad,if_neg (by decide),List.drop_length]; rfl
 ·rw[Qgx,ltI,decide_eq_true hk,if_pos rfl,Qbx (by omega),Qb0,getE hk,Qad,rDigit,Qad,Qad,ih,dropE hk,Qoy]
  cases digB s[k] with
  | true=>rw[if_pos rfl,if_pos rfl,Nat.add_assoc]
  | false=>rfl
def one18:List UInt8→Option (Int×List UInt8×Int×Nat)
 | []=>none
 | c::r=>match sgP c with
  | some j=>some (j,[],0,1)
  | none =>
   if c=34 then(quoP (r.length+1) r).map fun q=>(5,q.1,0,1+q.2)
   else if smallB c then(if wordP ((c::r).take (1+run letB r)) then some (4,(c::r).take (1+run letB r),0,1+run letB r) else none)
   else if c=45∨digB c=true then(if(numP ((c::r).take (1+run digB r))).2 then some (6,[],(numP ((c::r).take (1+run digB r))).1,1+run digB r) else none)
   else none
theorem Qr2 (c:UInt8) (r:List UInt8):one18 (c::r)=match sgP c with
  | some j=>some (j,[],0,1)
  | none =>
   if c=34 then(quoP (r.length+1) r).map fun q=>(5,q.1,0,1+q.2)
   else if smallB c then(if wordP ((c::r).take (1+run letB r)) then some (4,(c::r).take (1+run letB r),0,1+run letB r) else none)
   else if c=45∨digB c=true then(if(numP ((c::r).take (1+run digB r))).2 then some (6,[],(numP ((c::r).take (1+run digB r))).1,1+run digB r) else none)
   else none:=rfl
theorem Qq5 {l:List UInt8} {o:Int×List UInt8×Int×Nat} (h:one18 l=some o):1≤o.2.2.2∧o.2.2.2≤l.length:=by
 cases l with
 | nil=>cases h
 | cons c r =>
  have a:=Qu0 letB r
  have b:=Qu0 digB r
  rw[Qr2] at h
  split at h
  ·cases h; simp
  ·split at h
   ·obtain⟨q,h1,rfl⟩:=Option.map_eq_some_iff.1 h
    have:=Qr1 _ _ _ h1
    simp only[List.length_cons]; omega
   ·split at h
    ·split at h
     ·cases h; simp only[List.length_cons]; omega
     ·cases h
    ·split at h
     ·split at h
      ·cases h; simp only[List.length_cons]; omega
      ·cases h
     ·cases h
theorem Q30 {l:List UInt8} {o:Int×List UInt8×Int×Nat} (h:one18 l=some o):o.1≠1∧o.1≠3:=by
 cases l with
 | nil=>cases h
 | cons c r =>
  rw[Qr2] at h
  split at h
  ·rename_i j hj
   cases h
   simp only
   unfold sgP at hj
   repeat' split at hj
   all_goals first | (cases hj; decide) | cases hj
  ·split at h
   ·obtain⟨q,h1,rfl⟩:=Option.map_eq_some_iff.1 h
    simp
   ·split at h
    ·split at h
     ·cases h; simp
     ·cases h
    ·split at h
     ·split at h
      ·cases h; simp
      ·cases h
     ·cases h
def putT (j:Int) (t:List UInt8) (n:Int) (k m:Nat):Qac:=⟨j,t,n,(k:Int),((k+m:Nat):Int)⟩
theorem put2 {j:Int} {t:List UInt8} {n:Int} {m:Nat} {s:List UInt8} {k:Nat} {toks:List Qac} (hk:k≤200000) (hm:m≤200000) (ht:toks.length≤200000):Qaz j t n (m:Int) s (k:Int) toks=some (((k+m:Nat):Int),toks++[putT j t n k m]):=by
 have ew:wr ((k:Int)+(m:Int))=((k+m:Nat):Int):=by rw[wr_in (by omega) (by omega)]; rfl
 rw[Qaz,ew,Qgc (by simp; omega) (by simp; omega),Qad]
 rfl
theorem lSign (s:List UInt8) (k:Nat) (hk:k<s.length) (hs:s.length≤65536) (toks:List Qac) (ht:toks.length≤200000):Qeo s k toks=some (match sgP s[k] with | some j=>(true,((k+1:Nat):Int),toks++[putT j [] 0 k 1]) | none=>(false,(k:Int),toks)):=by
 have step:∀ (i:Nat) (hi:i<5),Qbe s k toks (i:Int)=if s[k]=([46,40,41,44,61]:List UInt8)[i] then some (.inr (((k+1:Nat):Int),toks++[putT ((7+i:Nat):Int) [] 0 k 1])) else Qbe s k toks ((i+1:Nat):Int):=fun i hi=>by
  have hp:∀ j,Qaz j [] 0 1 s k toks=some (((k+1:Nat):Int),toks++[putT j [] 0 k 1]):=fun j=>put2 (m:=1) (by omega) (by omega) ht
  have hd:decide ((i:Int)<5)=true:=decide_eq_true (by omega)
  rw[Qbe,hd,if_pos rfl,Qbx (by omega),Qb0,Qb0,getE hk]
  obtain rfl | rfl | rfl | rfl | rfl:i=0∨i=1∨i=2∨i=3∨i=4:=by omega
  all_goals
   simp only[List.getElem?_cons_zero,List.getElem?_cons_succ,Qad,hp]
   first
    | rw[show((s[k].toNat:Int)==46)=decide (s[k]=46) from eqC _ 46 (by omega)]
    | rw[show((s[k].toNat:Int)==40)=decide (s[k]=40) from eqC _ 40 (by omega)]
    | rw[show((s[k].toNat:Int)==41)=decide (s[k]=41) from eqC _ 41 (by omega)]
    | rw[show((s[k].toNat:Int)==44)=decide (s[k]=44) from eqC _ 44 (by omega)]
    | rw[show((s[k].toNat:Int)==61)=decide (s[k]=61) from eqC _ 61 (by omega)]
   simp only[decide_eq_true_eq,List.getElem_cons_zero,List.getElem_cons_succ]
   rfl
 have h5:Qbe s k toks ((5:Nat):Int)=some (.inl ()):=by rw[Qbe]; rfl
 rw[Qeo,show(0:Int)=((0:Nat):Int) from rfl,step 0 (by omega),step 1 (by omega),step 2 (by omega),step 3 (by omega),step 4 (by omega),h5]
 simp only[List.getElem_cons_zero,List.getElem_cons_succ]
 unfold sgP
 by_cases a:s[k]=46
 ·rw[if_pos a,if_pos a]; rfl
 by_cases b:s[k]=40
 ·rw[if_neg a,if_neg a,if_pos b,if_pos b]; rfl
 by_cases d:s[k]=41
 ·rw[if_neg a,if_neg a,if_neg b,if_neg b,if_pos d,if_pos d]; rfl
 by_cases e:s[k]=44
 ·rw[if_neg a,if_neg a,if_neg b,if_neg b,if_neg d,if_neg d,if_pos e,if_pos e]; rfl
 by_cases f:s[k]=61
 ·rw[if_neg a,if_neg a,if_neg b,if_neg b,if_neg d,if_neg d,if_neg e,if_neg e,if_pos f,if_pos f]; rfl
 rw[if_neg a,if_neg a,if_neg b,if_neg b,if_neg d,if_neg d,if_neg e,if_neg e,if_neg f,if_neg f]; rfl
theorem lText (s:List UInt8) (k:Nat) (hk:k<s.length) (hs:s.length≤65536) (toks:List Qac) (ht:toks.length≤200000):Qep s k toks=some (match quoP ((s.drop (k+1)).length+1) (s.drop (k+1)) with | some q=>(true,((k+(1+q.2):Nat):Int),toks++[putT 5 q.1 0 k (1+q.2)]) | none=>(false,(k:Int),toks)):=by
 obtain⟨o,o1,o2⟩:=lQuoL s hs k toks false ((s.drop (k+1)).length+1) (k+1) [] (by omega) (by rw[List.length_drop]; omega) (by simp)
 rw[Qep,Qbx (by omega)]
 show(Qbf s k toks ((k+1:Nat):Int) false (s2b [])>>=_)=_
 rw[o1,Qad]
 cases hq:quoP ((s.drop (k+1)).length+1) (s.drop (k+1)) with
 | none =>
  rw[hq] at o2
  rcases o2 with ⟨y,rfl⟩ | ⟨f,b,rfl⟩
  ·rfl
  ·simp only
   rw[decide_eq_true (by omega),if_pos rfl]
 | some q =>
  rw[hq] at o2
  obtain⟨f,rfl⟩:=o2
  obtain⟨q1,q2,q3⟩:=Qr1 _ _ q hq
  rw[List.length_drop] at q2
  simp only
  have ew:wr ((wr (((k+1+q.2-1:Nat):Int)+1))-(k:Int))=((1+q.2:Nat):Int):=by
   rw[Qbx (by omega),wr_in (by omega) (by omega)]; omega
  rw[decide_eq_false (by omega),if_neg (by decide),Qcy,Q5b,Qad,ew,put2 (by omega) (by omega) ht,Qad]
  rfl
theorem lNumber (s:List UInt8) (k:Nat) (hk:k<s.length) (hs:s.length≤65536) (toks:List Qac) (ht:toks.length≤200000):Qdk s k toks =
  some (if(numP ((s.drop k).take (1+run digB (s.drop (k+1))))).2=true then(true,((k+(1+run digB (s.drop (k+1))):Nat):Int),toks++[putT 6 [] (numP ((s.drop k).take (1+run digB (s.drop (k+1))))).1 k (1+run digB (s.drop (k+1)))]) else(false,(k:Int),toks)):=by
 have hr:=Qu0 digB (s.drop (k+1))
 rw[List.length_drop] at hr
 have hl:((s.drop k).take (1+run digB (s.drop (k+1)))).length=1+run digB (s.drop (k+1)):=by rw[List.length_take,List.length_drop]; omega
 rw[Qdk,Qbx (by omega),Qcv,lRunD s hs _ _ _ (by omega),Qad,show k+1+run digB (s.drop (k+1))=k+(1+run digB (s.drop (k+1))) by omega,cutN (by omega),Qad,Qad,Qku,Qgz (by rw[hl]; omega),Qad,Qad,hl]
 cases hn:(numP ((s.drop k).take (1+run digB (s.drop (k+1))))).2 with
 | true=>rw[if_pos rfl,put2 (by omega) (by omega) ht,Qad,if_pos rfl]
 | false=>rfl
theorem lWordT (s:List UInt8) (k:Nat) (hk:k<s.length) (hs:s.length≤65536) (toks:List Qac) (ht:toks.length≤200000) (hc:letB s[k]=true):Qeq s k toks =
  some (if wordP ((s.drop k).take (1+run letB (s.drop (k+1))))=true then(true,((k+(1+run letB (s.drop (k+1))):Nat):Int),toks++[putT 4 ((s.drop k).take (1+run letB (s.drop (k+1)))) 0 k (1+run letB (s.drop (k+1)))]) else(false,(k:Int),toks)):=by
 have hr:=Qu0 letB (s.drop (k+1))
 rw[List.length_drop] at hr
 have e:run letB (s.drop k)=1+run letB (s.drop (k+1)):=by rw[dropE hk,Qoy,if_pos hc]
 have hl:((s.drop k).take (1+run letB (s.drop (k+1)))).length=1+run letB (s.drop (k+1)):=by rw[List.length_take,List.length_drop]; omega
 rw[Qeq,Qco,lRunL s hs _ _ _ (by omega),Qad,e,cutN (by omega),Qad,Qad,lWord _ (by rw[hl]; omega),Qad,hl]
 cases wordP ((s.drop k).take (1+run letB (s.drop (k+1)))) with
 | true=>rw[Bool.not_true,if_neg (by decide),put2 (by omega) (by omega) ht,Qad,if_pos rfl]
 | false=>rfl
theorem Q5g (c:UInt8):letB c=true↔(smallB c=true∨digB c=true∨c=95):=by
 unfold letB
 rw[Bool.or_eq_true,Bool.or_eq_true,beq_iff_eq]
 have:c.toNat=95↔c=95:=⟨fun h=>UInt8.toNat_inj.1 h,fun h=>by rw[h]; rfl⟩
 rw[this]
theorem Q1v {c:UInt8} (h:c=34∨smallB c=true∨c=45∨digB c=true∨c=95):sgP c=none:=by
 have ne:∀ d:UInt8,(d=46∨d=40∨d=41∨d=44∨d=61)→c≠d:=fun d hd e=>by
  subst e
  rcases hd with rfl | rfl | rfl | rfl | rfl<;>revert h<;>decide
 have f1:=ne 46 (by decide)
 have f2:=ne 40 (by decide)
 have f3:=ne 41 (by decide)
 have f4:=ne 44 (by decide)
 have f5:=ne 61 (by decide)
 simp[sgP,f1,f2,f3,f4,f5]
theorem word95 {l:List UInt8} {m:Nat}:wordP ((95::l).take (1+m))=false:=by
 rw[Nat.add_comm,List.take_succ_cons]
 unfold wordP
 rw[Qry]
 simp
theorem lOne (s:List UInt8) (k:Nat) (hk:k<s.length) (hs:s.length≤65536) (toks:List Qac) (ht:toks.length≤200000):Qc8 s k toks =
  some (match one18 (s.drop k) with | some o=>(true,((k+o.2.2.2:Nat):Int),toks++[putT o.1 o.2.1 o.2.2.1 k o.2.2.2]) | none=>(false,(k:Int),toks)):=by
 have e34:((s[k].toNat:Int)==34)=decide (s[k]=34):=eqC s[k] 34 (by omega)
 have e45:((s[k].toNat:Int)==45)=decide (s[k]=45):=eqC s[k] 45 (by omega)
 rw[Qc8,Qb0,getE hk,Qad,e34,e45,lDigit,lLetter,lText s k hk hs toks ht,lNumber s k hk hs toks ht,lSign s k hk hs toks ht]
 rw[dropE hk,one18]
 by_cases h34:s[k]=34
 ·rw[decide_eq_true h34,if_pos rfl,Qad,Q1v (.inl h34)]
  simp only
  rw[if_pos h34]
  cases quoP ((s.drop (k+1)).length+1) (s.drop (k+1))<;>rfl
 ·rw[decide_eq_false h34,if_neg (by decide)]
  by_cases hn:s[k]=45∨digB s[k]=true
  ·have h1:(if decide (s[k]=45)=true then some true else(some (digB s[k])>>=fun x4=>some x4):Option Bool)=some true:=by
    rcases hn with h | h
    ·rw[decide_eq_true h,if_pos rfl]
    ·rw[h]; split<;>rfl
   have hsm:¬ smallB s[k]=true:=fun h=>by
    have a:97≤s[k].toNat∧s[k].toNat≤122:=by simpa [smallB] using h
    rcases hn with h | h
    ·rw[h] at a; exact absurd a.1 (by decide)
    ·have:48≤s[k].toNat∧s[k].toNat≤57:=by simpa [digB] using h
     omega
   rw[h1,Qad,if_pos rfl,Qad,Q1v (by rcases hn with h | h; exact .inr (.inr (.inl h)); exact .inr (.inr (.inr (.inl h))))]
   simp only
   rw[if_neg h34,if_neg hsm,if_pos hn]
   cases (numP ((s[k]::s.drop (k+1)).take (1+run digB (s.drop (k+1))))).2<;>rfl
  ·have h1:(if decide (s[k]=45)=true then some true else(some (digB s[k])>>=fun x4=>some x4):Option Bool)=some false:=by
    rw[decide_eq_false (fun h=>hn (.inl h)),if_neg (by decide),Qad,show digB s[k]=false by simpa using fun h=>hn (.inr h)]
   rw[h1,Qad,if_neg (by decide),Qad]
   by_cases hl:letB s[k]=true
   ·rw[hl,if_pos rfl,lWordT s k hk hs toks ht hl,Qad,dropE hk]
    have hx:=(Q5g s[k]).1 hl
    rw[Q1v (by rcases hx with h | h | h; exact .inr (.inl h); exact .inr (.inr (.inr (.inl h))); exact .inr (.inr (.inr (.inr h))))]
    simp only
    rw[if_neg h34]
    by_cases hsm:smallB s[k]=true
    ·rw[if_pos hsm]
     cases wordP ((s[k]::s.drop (k+1)).take (1+run letB (s.drop (k+1))))<;>rfl
    ·have h95:s[k]=95:=by
      rcases hx with h | h | h
      ·exact absurd h hsm
      ·exact absurd (.inr h) hn
      ·exact h
     rw[if_neg hsm,if_neg hn,h95,word95]
     rfl
   ·rw[show letB s[k]=false by simpa using hl,if_neg (by decide),Qad]
    cases hg:sgP s[k] with
    | some j=>rfl
    | none =>
     simp only
     have hsm:¬ smallB s[k]=true:=fun h=>hl ((Q5g _).2 (.inl h))
     rw[if_neg h34,if_neg hsm,if_neg hn]
theorem rOne (s:List UInt8) (k:Nat) (hk:k<s.length) (hs:s.length≤65536) (h2:two 125 125 (s.drop k)=false):match one18 (s.drop k) with | some o=>Qmh s k=some (putT o.1 o.2.1 o.2.2.1 k o.2.2.2,true) | none=>∃ t,Qmh s k=some (t,false):=by
 have e34:((s[k].toNat:Int)==34)=decide (s[k]=34):=eqC s[k] 34 (by omega)
 have e45:((s[k].toNat:Int)==45)=decide (s[k]=45):=eqC s[k] 45 (by omega)
 have hr:=Qu0 digB (s.drop (k+1))
 have hr2:=Qu0 letB (s.drop (k+1))
 rw[List.length_drop] at hr hr2
 have h1:Qmh s k=some (match sgP s[k] with
   | some j=>(putT j [] 0 k 1,true)
   | none=>if s[k]=34 then(match quoP ((s.drop (k+1)).length+1) (s.drop (k+1)) with | some q=>(putT 5 q.1 0 k (1+q.2),true) | none=>(⟨5,[],0,k,-1⟩,false))
    else if smallB s[k]=true then(putT 4 ((s.drop k).take (1+run letB (s.drop (k+1)))) 0 k (1+run letB (s.drop (k+1))),wordP ((s.drop k).take (1+run letB (s.drop (k+1)))))
    else if s[k]=45∨digB s[k]=true then(putT 6 [] (numP ((s.drop k).take (1+run digB (s.drop (k+1))))).1 k (1+run digB (s.drop (k+1))),(numP ((s.drop k).take (1+run digB (s.drop (k+1))))).2)
    else(⟨0,[],0,k,((k+1:Nat):Int)⟩,false)):=by
  rw[Qmh,Qb0,getE hk,Qad,rBeg2 125 125 s k (by omega) hs,h2,Qad,if_neg (by decide),rSigns,Qad,e34,e45,Qbx (by omega),rSmall,rDigit]
  cases hg:sgP s[k] with
  | some j=>rfl
  | none =>
   simp only
   by_cases h34:s[k]=34
   ·rw[decide_eq_true h34,if_pos rfl,if_pos h34,Qow,Qbx (by omega)]
    obtain⟨o,o1,o2⟩:=rQuoL s hs ((s.drop (k+1)).length+1) (k+1) [] (by omega) (by rw[List.length_drop]; omega) (by simp)
    rw[o1,Qad]
    cases hq:quoP ((s.drop (k+1)).length+1) (s.drop (k+1)) with
    | none =>
     rw[hq] at o2
     rcases o2 with rfl | rfl<;>rfl
    | some q =>
     rw[hq] at o2
     rw[o2]
     simp only[List.nil_append,Qad]
     rw[decide_eq_true (by omega)]
     unfold putT
     rw[show k+1+q.2=k+(1+q.2) by omega]
   ·rw[decide_eq_false h34,if_neg (by decide),if_neg h34,Qad]
    by_cases hsm:smallB s[k]=true
    ·have hl:((s.drop k).take (1+run letB (s.drop (k+1)))).length≤65536:=by rw[List.length_take,List.length_drop]; omega
     rw[hsm,if_pos rfl,if_pos rfl,rRunL s hs _ _ (by omega),Qad,show k+1+run letB (s.drop (k+1))=k+(1+run letB (s.drop (k+1))) by omega,cutN (by omega),Qad,Qad,rWord _ (by omega),Qad]
     rfl
    ·rw[show smallB s[k]=false by simpa using hsm,if_neg (show ¬ (false=true) by decide)]
     by_cases hn:s[k]=45∨digB s[k]=true
     ·have h1:(if decide (s[k]=45)=true then some true else(some (digB s[k])>>=fun x4=>some x4):Option Bool)=some true:=by
       rcases hn with h | h
       ·rw[decide_eq_true h,if_pos rfl]
       ·rw[h]; split<;>rfl
      have hl:((s.drop k).take (1+run digB (s.drop (k+1)))).length≤65536:=by rw[List.length_take,List.length_drop]; omega
      rw[h1,Qad,if_pos rfl,if_pos hn,rRunD s hs _ _ (by omega),Qad,show k+1+run digB (s.drop (k+1))=k+(1+run digB (s.drop (k+1))) by omega,cutN (by omega),Qad,Qou,Qgz (by omega),Qad,Qad,Q6i]
      rfl
     ·have h1:(if decide (s[k]=45)=true then some true else(some (digB s[k])>>=fun x4=>some x4):Option Bool)=some false:=by
       rw[decide_eq_false (fun h=>hn (.inl h)),if_neg (by decide),Qad,show digB s[k]=false by simpa using fun h=>hn (.inr h)]
      rw[h1,Qad,if_neg (by decide),if_neg hn]
      rfl
 rw[h1,dropE hk,one18]
 cases hg:sgP s[k] with
 | some j=>rfl
 | none =>
  simp only
  by_cases h34:s[k]=34
  ·rw[if_pos h34,if_pos h34]
   cases quoP ((s.drop (k+1)).length+1) (s.drop (k+1)) with
   | none=>exact⟨_,rfl⟩
   | some q=>rfl
  ·rw[if_neg h34,if_neg h34]
   by_cases hsm:smallB s[k]=true
   ·rw[if_pos hsm,if_pos hsm]
    cases wordP ((s[k]::s.drop (k+1)).take (1+run letB (s.drop (k+1)))) with
    | true=>rfl
    | false=>exact⟨_,rfl⟩
   ·rw[if_neg hsm,if_neg hsm]
    by_cases hn:s[k]=45∨digB s[k]=true
    ·rw[if_pos hn,if_pos hn]
     cases (numP ((s[k]::s.drop (k+1)).take (1+run digB (s.drop (k+1))))).2 with
     | true=>rfl
     | false=>exact⟨_,rfl⟩
    ·rw[if_neg hn,if_neg hn]
     exact⟨_,rfl⟩
theorem rClose (s:List UInt8) (k:Nat) (hs:s.length≤65536) (h2:two 125 125 (s.drop k)=true):Qmh s k=some (putT 3 [] 0 k 2,true):=by
 have hk:k<s.length:=by have:=Qyd h2; rw[List.length_drop] at this; omega
 have ew:wr ((k:Int)+2)=((k+2:Nat):Int):=by rw[wr_in (by omega) (by omega)]; rfl
 rw[Qmh,Qb0,getE hk,Qad,rBeg2 125 125 s k (by omega) hs,h2,Qad,if_pos rfl,ew]
 rfl
end Go.Proofs.YtagokkpnfceidaaGreatDoor
end

section
namespace Go.Proofs.YtagokkpnfceidaaGreatDoor
open Go.RowKit
def tokI (s:List UInt8):Nat→Nat→List Qac→(List Qac×Nat)⊕Nat
 | 0,k,_ =>.inr k
 | n+1,k,acc =>
  if two 125 125 (s.drop (k+blN (s.drop k))) then .inl (acc++[putT 3 [] 0 (k+blN (s.drop k)) 2],k+blN (s.drop k)+2)
  else match one18 (s.drop (k+blN (s.drop k))) with
   | none =>.inr (k+blN (s.drop k))
   | some o=>tokI s n (k+blN (s.drop k)+o.2.2.2) (acc++[putT o.1 o.2.1 o.2.2.1 (k+blN (s.drop k)) o.2.2.2])
def litT (s:List UInt8) (k:Nat) (acc:List Qac):List Qac:=if 0<fnd 123 123 (s.drop k) then acc++[putT 1 ((s.drop k).take (fnd 123 123 (s.drop k))) 0 k (fnd 123 123 (s.drop k))] else acc
def openK (s:List UInt8) (k:Nat):Nat:=k+2+blN (s.drop (k+2))+(if oneB 35 (s.drop (k+2+blN (s.drop (k+2)))) then fnd 125 125 (s.drop (k+2+blN (s.drop (k+2)))) else 0)
def tokO (s:List UInt8):Nat→Nat→List Qac→List Qac×Int×Int
 | 0,_,_=>([],0,0)
 | n+1,k,acc =>
  if fnd 123 123 (s.drop k)<s.length-k then
   match tokI s (s.length+1) (openK s (k+fnd 123 123 (s.drop k))) (litT s k acc++[putT 2 [] 0 (k+fnd 123 123 (s.drop k)) 2]) with
   | .inl y=>tokO s n y.2 y.1
   | .inr p=>([],(p:Int),7)
  else(litT s k acc,0,0)
theorem cutE (s:List UInt8) (k:Nat) (hk:k≤s.length):cutL s k (s.length:Int)=some (s.drop k):=by
 rw[Ql0 (by omega) (by omega) (by omega)]
 simp
theorem idxD (a b:UInt8) (s:List UInt8) (k:Nat) (hs:s.length≤65536):strings_Index (s.drop k) [a,b]=some (if fnd a b (s.drop k)<s.length-k then(fnd a b (s.drop k):Int) else -1):=by
 rw[strings_Index,Qcn,Qgz (by rw[List.length_drop]; omega),Qad,Qad,lIdx,List.length_drop]
theorem fnd2 (s:List UInt8) (k:Nat) (h:fnd 123 123 (s.drop k)<s.length-k):k+fnd 123 123 (s.drop k)+2≤s.length:=by
 have:=Qyd (Q6x 123 123 (s.drop k) (by rw[List.length_drop]; exact h))
 rw[List.length_drop,List.length_drop] at this
 omega
theorem Qye (s:List UInt8) (k:Nat) (hk:k+2≤s.length):k+2≤openK s k∧openK s k≤s.length:=by
 have h1:=Qpk (s.drop (k+2))
 have h2:=Quz 125 125 (s.drop (k+2+blN (s.drop (k+2))))
 rw[List.length_drop] at h1 h2
 unfold openK
 split<;>omega
theorem Qu1 (s:List UInt8):∀ (n k:Nat) (acc:List Qac) (y:List Qac×Nat),k≤s.length→tokI s n k acc = .inl y→k<y.2∧y.2≤s.length∧y.1.length≤acc.length+(y.2-k)
 | 0,k,acc,y,_,h=>by cases h
 | n+1,k,acc,y,hk,h=>by
  have hb:=Qpk (s.drop k)
  rw[List.length_drop] at hb
  rw[tokI] at h
  split at h
  ·rename_i h2
   have:=Qyd h2
   rw[List.length_drop] at this
   cases h
   simp only[List.length_append,List.length_cons,List.length_nil]
   omega
  ·split at h
   ·cases h
   ·rename_i o ho
    obtain⟨o1,o2⟩:=Qq5 ho
    rw[List.length_drop] at o2
    have:=Qu1 s n _ _ y (by omega) h
    simp only[List.length_append,List.length_cons,List.length_nil] at this
    omega
theorem lInner (s:List UInt8) (hs:s.length≤65536):∀ (n k:Nat) (acc:List Qac),k≤s.length→s.length-k<n→acc.length≤k →
  Qfj s ((k:Int),acc)=match tokI s n k acc with | .inl y=>Qcx s ((y.2:Int),y.1) | .inr p=>some ([],(p:Int),7)
 | 0,k,acc,h1,h2,_=>by omega
 | n+1,k,acc,h1,h2,h3=>by
  have hb:=Qpk (s.drop k)
  rw[List.length_drop] at hb
  rw[Qfj,lBl s k h1 hs,Qad,lBeg2 125 125 s _ (by omega) hs,Qad,tokI]
  by_cases h2' : two 125 125 (s.drop (k+blN (s.drop k)))=true
  ·have:=Qyd h2'
   rw[List.length_drop] at this
   have hp:Qaz 3 [] 0 2 s ((k+blN (s.drop k):Nat):Int) acc=some (((k+blN (s.drop k)+2:Nat):Int),acc++[putT 3 [] 0 (k+blN (s.drop k)) 2]):=put2 (m:=2) (by omega) (by omega) (by omega)
   rw[if_pos h2', if_pos h2', hp,Qad]
  ·rw[if_neg h2', if_neg h2']
   rcases Nat.lt_or_ge (k+blN (s.drop k)) s.length with hlt | hge
   ·have en:(((k+blN (s.drop k):Nat):Int)==(s.length:Int))=false:=beq_eq_false_iff_ne.2 (by omega)
    rw[en,if_neg (show ¬ (false=true) by decide),lOne s _ hlt hs acc (by omega),Qad]
    cases ho:one18 (s.drop (k+blN (s.drop k))) with
    | none=>rfl
    | some o =>
     obtain⟨o1,o2⟩:=Qq5 ho
     rw[List.length_drop] at o2
     simp only[Bool.not_true,Qad]
     rw[if_neg (show ¬ (false=true) by decide),lInner s hs n _ _ (by omega) (by omega) (by simp; omega)]
   ·have en:(((k+blN (s.drop k):Nat):Int)==(s.length:Int))=true:=beq_iff_eq.2 (by omega)
    rw[en,if_pos rfl,Qad,if_pos rfl,List.drop_eq_nil_of_le hge]
    rfl
theorem rInner (s:List UInt8) (hs:s.length≤65536):∀ (n k:Nat) (acc:List Qac),k≤s.length→s.length-k<n→acc.length≤k →
  Qed s acc k=some (match tokI s n k acc with | .inl y =>.inl (y.1,(y.2:Int)) | .inr p =>.inr (p:Int))
 | 0,k,acc,h1,h2,_=>by omega
 | n+1,k,acc,h1,h2,h3=>by
  have hb:=Qpk (s.drop k)
  rw[List.length_drop] at hb
  rw[Qed,rBl s hs k h1,Qad,tokI]
  rcases Nat.lt_or_ge (k+blN (s.drop k)) s.length with hlt | hge
  ·have en:(((k+blN (s.drop k):Nat):Int)==(s.length:Int))=false:=beq_eq_false_iff_ne.2 (by omega)
   rw[en,if_neg (show ¬ (false=true) by decide)]
   by_cases h2' : two 125 125 (s.drop (k+blN (s.drop k)))=true
   ·rw[rClose s _ hs h2', Qad,if_pos h2']
    simp only[Bool.not_true]
    rw[if_neg (show ¬ (false=true) by decide),Qgc (by simp; omega) (by simp; omega),Qad]
    rfl
   ·have hr:=rOne s _ hlt hs (by simpa using h2')
    rw[if_neg h2']
    cases ho:one18 (s.drop (k+blN (s.drop k))) with
    | none =>
     rw[ho] at hr
     obtain⟨t,ht⟩:=hr
     rw[ht,Qad]; rfl
    | some o =>
     rw[ho] at hr
     obtain⟨o1,o2⟩:=Qq5 ho
     rw[List.length_drop] at o2
     have hk3:((putT o.1 o.2.1 o.2.2.1 (k+blN (s.drop k)) o.2.2.2).Kind==3)=false:=beq_eq_false_iff_ne.2 (Q30 ho).2
     simp only at hr
     rw[hr,Qad]
     simp only[Bool.not_true]
     rw[if_neg (show ¬ (false=true) by decide),Qgc (by simp; omega) (by simp; omega),Qad,hk3,if_neg (show ¬ (false=true) by decide)]
     exact rInner s hs n _ _ (by omega) (by omega) (by simp; omega)
  ·have en:(((k+blN (s.drop k):Nat):Int)==(s.length:Int))=true:=beq_iff_eq.2 (by omega)
   rw[en,if_pos rfl,List.drop_eq_nil_of_le hge]
   rfl
theorem Q2u (s:List UInt8) (k:Nat) (acc:List Qac):(litT s k acc).length≤acc.length+fnd 123 123 (s.drop k):=by
 unfold litT
 split
 ·simp; omega
 ·omega
theorem lOuter (s:List UInt8) (hs:s.length≤65536):∀ (n k:Nat) (acc:List Qac),k≤s.length→s.length-k<n→acc.length≤k→Qcx s ((k:Int),acc)=some (tokO s n k acc)
 | 0,k,acc,h1,h2,_=>by omega
 | n+1,k,acc,h1,h2,h3=>by
  have hf:=Quz 123 123 (s.drop k)
  rw[List.length_drop] at hf
  have hll:=Q2u s k acc
  have eo:(if decide ((if fnd 123 123 (s.drop k)<s.length-k then(fnd 123 123 (s.drop k):Int) else -1)<0)=true then some (wr ((s.length:Int)-(k:Int))) else some (if fnd 123 123 (s.drop k)<s.length-k then(fnd 123 123 (s.drop k):Int) else -1):Option Int)=some ((fnd 123 123 (s.drop k):Nat):Int):=by
   by_cases h:fnd 123 123 (s.drop k)<s.length-k
   ·rw[if_pos h,decide_eq_false (by omega),if_neg (by decide)]
   ·rw[if_neg h,decide_eq_true (by decide),if_pos rfl,wr_in (by omega) (by omega)]
    congr 1
    omega
  have el:(if decide (((fnd 123 123 (s.drop k):Nat):Int)>0)=true then(cutL s k (wr ((k:Int)+((fnd 123 123 (s.drop k):Nat):Int)))>>=fun x6=>Qaz 1 x6 0 ((fnd 123 123 (s.drop k):Nat):Int) s k acc>>=fun x7=>some (x7.1,x7.2)) else some ((k:Int),acc):Option (Int×List Qac))=some (((k+fnd 123 123 (s.drop k):Nat):Int),litT s k acc):=by
   have ew:wr ((k:Int)+((fnd 123 123 (s.drop k):Nat):Int))=((k+fnd 123 123 (s.drop k):Nat):Int):=by rw[wr_in (by omega) (by omega)]; rfl
   unfold litT
   by_cases h:0<fnd 123 123 (s.drop k)
   ·rw[decide_eq_true (by omega),if_pos rfl,ew,cutN (by omega),Qad,put2 (by omega) (by omega) (by omega),Qad,if_pos h]
   ·rw[decide_eq_false (by omega),if_neg (by decide),if_neg h]
    congr 2
    omega
  rw[Qcx]
  simp only
  rw[cutE s k h1,Qad,idxD 123 123 s k hs,Qad,eo,Qad,el,Qad,tokO]
  simp only
  by_cases hlt:fnd 123 123 (s.drop k)<s.length-k
  ·have hf2:=fnd2 s k hlt
   have en:(((k+fnd 123 123 (s.drop k):Nat):Int)==(s.length:Int))=false:=beq_eq_false_iff_ne.2 (by omega)
   obtain⟨g1,g2⟩:=Qye s (k+fnd 123 123 (s.drop k)) hf2
   have hp:Qaz 2 [] 0 2 s ((k+fnd 123 123 (s.drop k):Nat):Int) (litT s k acc)=some (((k+fnd 123 123 (s.drop k)+2:Nat):Int),litT s k acc++[putT 2 [] 0 (k+fnd 123 123 (s.drop k)) 2]):=put2 (m:=2) (by omega) (by omega) (by omega)
   have hb:=Qpk (s.drop (k+fnd 123 123 (s.drop k)+2))
   rw[List.length_drop] at hb
   rw[en,if_neg (show ¬ (false=true) by decide),if_pos hlt,hp,Qad]
   simp only
   rw[lBl s _ hf2 hs,Qad,lBeg1 35 s _ (by omega) hs,Qad]
   by_cases h35:oneB 35 (s.drop (k+fnd 123 123 (s.drop k)+2+blN (s.drop (k+fnd 123 123 (s.drop k)+2))))=true
   ·have hf3:=Quz 125 125 (s.drop (k+fnd 123 123 (s.drop k)+2+blN (s.drop (k+fnd 123 123 (s.drop k)+2))))
    rw[List.length_drop] at hf3
    have eK:openK s (k+fnd 123 123 (s.drop k))=k+fnd 123 123 (s.drop k)+2+blN (s.drop (k+fnd 123 123 (s.drop k)+2))+fnd 125 125 (s.drop (k+fnd 123 123 (s.drop k)+2+blN (s.drop (k+fnd 123 123 (s.drop k)+2)))):=by
     unfold openK; rw[if_pos h35]
    rw[if_pos h35,cutE s _ (by omega),Qad,idxD 125 125 s _ hs,Qad]
    by_cases hx:fnd 125 125 (s.drop (k+fnd 123 123 (s.drop k)+2+blN (s.drop (k+fnd 123 123 (s.drop k)+2))))<s.length-(k+fnd 123 123 (s.drop k)+2+blN (s.drop (k+fnd 123 123 (s.drop k)+2)))
    ·rw[if_pos hx,decide_eq_false (by omega),if_neg (show ¬ (false=true) by decide),Qad]
     simp only
     rw[wr_in (by omega) (by omega),← Int.natCast_add,← eK,lInner s hs (s.length+1) _ _ (by omega) (by omega) (by simp only[List.length_append,List.length_cons,List.length_nil]; omega)]
     cases hI:tokI s (s.length+1) (openK s (k+fnd 123 123 (s.drop k))) (litT s k acc++[putT 2 [] 0 (k+fnd 123 123 (s.drop k)) 2]) with
     | inr p=>rfl
     | inl y =>
      obtain⟨y1,y2,y3⟩:=Qu1 s _ _ _ _ g2 hI
      simp only[List.length_append,List.length_cons,List.length_nil] at y3
      have q2:s.length-y.2<n:=by omega
      have q3:y.1.length≤y.2:=by omega
      exact lOuter s hs n _ _ y2 q2 q3
    ·rw[if_neg hx,decide_eq_true (by decide),if_pos rfl,Qad]
     have e2:openK s (k+fnd 123 123 (s.drop k))=s.length:=by omega
     have eb:s.length+blN (s.drop s.length)=s.length:=by rw[List.drop_length]; rfl
     rw[e2,tokI,eb,List.drop_length]
     rfl
   ·have eK:openK s (k+fnd 123 123 (s.drop k))=k+fnd 123 123 (s.drop k)+2+blN (s.drop (k+fnd 123 123 (s.drop k)+2)):=by
     unfold openK; rw[if_neg h35]; rfl
    rw[if_neg h35,Qad]
    simp only
    rw[← eK,lInner s hs (s.length+1) _ _ (by omega) (by omega) (by simp only[List.length_append,List.length_cons,List.length_nil]; omega)]
    cases hI:tokI s (s.length+1) (openK s (k+fnd 123 123 (s.drop k))) (litT s k acc++[putT 2 [] 0 (k+fnd 123 123 (s.drop k)) 2]) with
    | inr p=>rfl
    | inl y =>
     obtain⟨y1,y2,y3⟩:=Qu1 s _ _ _ _ g2 hI
     simp only[List.length_append,List.length_cons,List.length_nil] at y3
     have q2:s.length-y.2<n:=by omega
     have q3:y.1.length≤y.2:=by omega
     exact lOuter s hs n _ _ y2 q2 q3
  ·have en:(((k+fnd 123 123 (s.drop k):Nat):Int)==(s.length:Int))=true:=beq_iff_eq.2 (by omega)
   rw[en,if_pos rfl,if_neg hlt]
theorem rOuter (s:List UInt8) (hs:s.length≤65536):∀ (n k:Nat) (acc:List Qac),k≤s.length→s.length-k<n→acc.length≤k→∃ o,Qdj s acc k=some o∧(match o with | .inl l=>tokO s n k acc=(l,0,0) | .inr y=>tokO s n k acc=y)
 | 0,k,acc,h1,h2,_=>by omega
 | n+1,k,acc,h1,h2,h3=>by
  have hf:=Quz 123 123 (s.drop k)
  rw[List.length_drop] at hf
  have hll:=Q2u s k acc
  rcases Nat.lt_or_ge k s.length with hk | hk
  ·have el:(if decide (((k+fnd 123 123 (s.drop k):Nat):Int)>(k:Int))=true then(cutL s k ((k+fnd 123 123 (s.drop k):Nat):Int)>>=fun x6=>appL 48 acc [(Qac.mk 1 x6 0 (k:Int) ((k+fnd 123 123 (s.drop k):Nat):Int))]>>=fun x7=>some x7) else some acc:Option (List Qac))=some (litT s k acc):=by
    unfold litT
    by_cases h:0<fnd 123 123 (s.drop k)
    ·rw[decide_eq_true (by omega),if_pos rfl,cutN (by omega),Qad,Qgc (by simp; omega) (by simp; omega),Qad,if_pos h]
     rfl
    ·rw[decide_eq_false (by omega),if_neg (by decide),if_neg h]
   rw[Qdj,ltI,decide_eq_true hk,if_pos rfl,rFnd 123 123 s hs k h1,Qad,el,Qad,tokO]
   by_cases hlt:fnd 123 123 (s.drop k)<s.length-k
   ·have hf2:=fnd2 s k hlt
    have en:(((k+fnd 123 123 (s.drop k):Nat):Int)==(s.length:Int))=false:=beq_eq_false_iff_ne.2 (by omega)
    obtain⟨g1,g2⟩:=Qye s (k+fnd 123 123 (s.drop k)) hf2
    have ew:wr (((k+fnd 123 123 (s.drop k):Nat):Int)+2)=((k+fnd 123 123 (s.drop k)+2:Nat):Int):=by rw[wr_in (by omega) (by omega)]; rfl
    have hb:=Qpk (s.drop (k+fnd 123 123 (s.drop k)+2))
    rw[List.length_drop] at hb
    have eK:(Qcs s [35] ((k+fnd 123 123 (s.drop k)+2+blN (s.drop (k+fnd 123 123 (s.drop k)+2)):Nat):Int)>>=fun x11=>if x11=true then(Qmi s [125,125] ((k+fnd 123 123 (s.drop k)+2+blN (s.drop (k+fnd 123 123 (s.drop k)+2)):Nat):Int)>>=fun x12=>some x12) else some ((k+fnd 123 123 (s.drop k)+2+blN (s.drop (k+fnd 123 123 (s.drop k)+2)):Nat):Int))=some ((openK s (k+fnd 123 123 (s.drop k)):Nat):Int):=by
     rw[rBeg1 35 s _ (by omega) hs,Qad]
     unfold openK
     split
     ·rw[rFnd 125 125 s hs _ (by omega),Qad]
     ·rfl
    rw[en,if_neg (show ¬ (false=true) by decide),if_pos hlt,ew,Qgc (by simp; omega) (by simp; omega),Qad,rBl s hs _ hf2,Qad,eK,Qad]
    have ep:(Qac.mk 2 [] 0 ((k+fnd 123 123 (s.drop k):Nat):Int) ((k+fnd 123 123 (s.drop k)+2:Nat):Int))=putT 2 [] 0 (k+fnd 123 123 (s.drop k)) 2:=rfl
    rw[ep,rInner s hs (s.length+1) _ _ g2 (by omega) (by simp only[List.length_append,List.length_cons,List.length_nil]; omega),Qad]
    cases hI:tokI s (s.length+1) (openK s (k+fnd 123 123 (s.drop k))) (litT s k acc++[putT 2 [] 0 (k+fnd 123 123 (s.drop k)) 2]) with
    | inr p=>exact⟨_,rfl,rfl⟩
    | inl y =>
     obtain⟨y1,y2,y3⟩:=Qu1 s _ _ _ _ g2 hI
     simp only[List.length_append,List.length_cons,List.length_nil] at y3
     have q2:s.length-y.2<n:=by omega
     have q3:y.1.length≤y.2:=by omega
     exact rOuter s hs n _ _ y2 q2 q3
   ·have en:(((k+fnd 123 123 (s.drop k):Nat):Int)==(s.length:Int))=true:=beq_iff_eq.2 (by omega)
    rw[en,if_pos rfl,if_neg hlt]
    exact⟨_,rfl,rfl⟩
  ·have ek:k=s.length:=by omega
   rw[Qdj,ltI,decide_eq_false (by omega),if_neg (by decide)]
   refine⟨_,rfl,?_⟩
   have e0:fnd 123 123 (s.drop k)=0:=by rw[List.drop_eq_nil_of_le hk]; rfl
   simp only
   rw[tokO,e0,if_neg (by omega)]
   unfold litT
   rw[e0,if_neg (by omega)]
def tokens (s:List UInt8):List Qac×Int×Int:=if 65536<s.length then([],0,6) else tokO s (s.length+1) 0 []
theorem lTokens (s:List UInt8):Qlo s=some (tokens s):=by
 rw[Qlo,tokens]
 by_cases h:65536<s.length
 ·rw[decide_eq_true (by omega),if_pos rfl,if_pos h]; rfl
 ·rw[decide_eq_false (by omega),if_neg (by decide),if_neg h]
  have:=lOuter s (by omega) (s.length+1) 0 [] (by omega) (by omega) (by simp)
  rw[show((0:Nat):Int)=0 from rfl] at this
  rw[this]; rfl
theorem rTokens (s:List UInt8):Qlm s=some (tokens s):=by
 rw[Qlm,tokens]
 by_cases h:65536<s.length
 ·rw[decide_eq_true (by omega),if_pos rfl,if_pos h]
 ·rw[decide_eq_false (by omega),if_neg (by decide),if_neg h]
  obtain⟨o,o1,o2⟩:=rOuter s (by omega) (s.length+1) 0 [] (by omega) (by omega) (by simp)
  rw[show((0:Nat):Int)=0 from rfl] at o1
  rw[o1,Qad]
  cases o with
  | inl l=>simp only at o2 ⊢; rw[o2]
  | inr y=>simp only at o2 ⊢; rw[o2]
end Go.Proofs.YtagokkpnfceidaaGreatDoor
end

section
namespace Go.Proofs.YtagokkpnfceidaaGreatDoor
open Go.RowKit
set_option linter.unusedSimpArgs false
set_option linter.unusedVariables false
theorem Qyf:∀ (n:Nat) (l:List UInt8) (q:List UInt8×Nat),quoP n l=some q→q.1.length≤q.2
 | 0,l,q,h=>by simp[quoP] at h
 | n+1,[],q,h=>by simp[quoP] at h
 | n+1,c::r,q,h=>by
  rw[Qfz] at h
  split at h
  ·cases h; simp
  split at h
  ·cases r with
   | nil=>cases h
   | cons d r =>
    rw[escR] at h
    split at h
    ·obtain⟨q', h1,rfl⟩:=Option.map_eq_some_iff.1 h
     have:=Qyf n r q' h1
     simp only[List.length_cons]; omega
    ·cases h
  split at h
  ·cases h
  ·obtain⟨q', h1,rfl⟩:=Option.map_eq_some_iff.1 h
   have:=Qyf n _ q' h1
   simp only[List.length_append,List.length_take]; omega
theorem Q5h {l:List UInt8} {o:Int×List UInt8×Int×Nat} (h:one18 l=some o):o.2.1.length≤o.2.2.2:=by
 cases l with
 | nil=>cases h
 | cons c r =>
  rw[Qr2] at h
  split at h
  ·cases h; simp
  ·split at h
   ·obtain⟨q,h1,rfl⟩:=Option.map_eq_some_iff.1 h
    have:=Qyf _ _ _ h1
    simp only; omega
   ·split at h
    ·split at h
     ·cases h; simp only[List.length_take]; omega
     ·cases h
    ·split at h
     ·split at h
      ·cases h; simp
      ·cases h
     ·cases h
def Fit (l:List Qac) (b:Nat):Prop:=l.length≤b∧tsum l≤b
theorem Fit.snoc {l:List Qac} {b:Nat} (h:Fit l b) (t:Qac) {m:Nat} (h1:1≤m) (h2:t.Text.length≤m):Fit (l++[t]) (b+m):=by
 refine⟨by have:=h.1; simp; omega,?_⟩
 have:=h.2
 unfold tsum at this ⊢
 simp; omega
theorem Fit.mono {l:List Qac} {b b' : Nat} (h:Fit l b) (hb:b≤b'):Fit l b' := ⟨by have:=h.1; omega,by have:=h.2; omega⟩
theorem Q2v (s:List UInt8):∀ (n k:Nat) (acc:List Qac) (y:List Qac×Nat),k≤s.length→Fit acc k→tokI s n k acc = .inl y→Fit y.1 y.2
 | 0,k,acc,y,_,_,h=>by cases h
 | n+1,k,acc,y,hk,ha,h=>by
  have hb:=Qpk (s.drop k)
  rw[List.length_drop] at hb
  rw[tokI] at h
  split at h
  ·cases h
   exact(ha.mono (show k≤k+blN (s.drop k) by omega)).snoc _ (by omega) (by simp[putT])
  ·split at h
   ·cases h
   ·rename_i o ho
    obtain⟨o1,o2⟩:=Qq5 ho
    rw[List.length_drop] at o2
    exact Q2v s n _ _ y (by omega) ((ha.mono (show k≤k+blN (s.drop k) by omega)).snoc _ o1 (Q5h ho)) h
theorem Q2w (s:List UInt8) (k:Nat) (acc:List Qac) (h:Fit acc k):Fit (litT s k acc) (k+fnd 123 123 (s.drop k)):=by
 unfold litT
 split
 ·exact h.snoc _ (by omega) (by simp[putT]; omega)
 ·exact h.mono (by omega)
theorem Q2x (s:List UInt8):∀ (n k:Nat) (acc:List Qac),k≤s.length→Fit acc k→Fit (tokO s n k acc).1 s.length
 | 0,k,acc,_,_=>⟨by simp[tokO],by simp[tokO,tsum]⟩
 | n+1,k,acc,hk,ha=>by
  have hf:=Quz 123 123 (s.drop k)
  rw[List.length_drop] at hf
  rw[tokO]
  split
  ·rename_i hlt
   have h2:=fnd2 s k hlt
   obtain⟨p1,p2⟩:=Qye s (k+fnd 123 123 (s.drop k)) h2
   have hl:=((Q2w s k acc ha).snoc (putT 2 [] 0 (k+fnd 123 123 (s.drop k)) 2) (m:=2) (by omega) (by simp[putT])).mono p1
   split
   ·rename_i y hy
    obtain⟨-,g2,-⟩:=Qu1 s _ _ _ y p2 hy
    exact Q2x s n y.2 y.1 g2 (Q2v s _ _ _ y p2 hl hy)
   ·exact⟨by simp,by simp[tsum]⟩
  ·exact(Q2w s k acc ha).mono (by omega)
theorem Qr3 (s:List UInt8):Fit (tokens s).1 65536:=by
 unfold tokens
 split
 ·exact⟨by simp,by simp[tsum]⟩
 ·exact(Q2x s _ 0 [] (by omega) ⟨by simp,by simp[tsum]⟩).mono (by omega)
theorem Qu2 (s:List UInt8):Toks (tokens s).1:=by
 obtain⟨h1,h2⟩:=Qr3 s
 exact⟨by omega,by unfold tsum at h2; omega⟩
theorem Qbt {α β : Type} {r:Rs α} {f : α → List Qac→Rs β} {y : β} {l' : List Qac} (h:r.bind f = .ok y l'):∃ a l1,r = .ok a l1∧f a l1 = .ok y l' := by
 cases r with
 | ok a l1=>exact⟨a,l1,rfl,h⟩
 | bad l1=>cases h
theorem Qig {k:Int} (hk:k≠0) {l l' : List Qac} {t:Qac} (h:want k l = .ok t l'):l'.length+1=l.length∧t=hd l∧l' = l.tail∧kd l=k:=by
 unfold want at h
 split at h
 ·rename_i h1
  have:=Qb8 (kd_ne hk h1)
  have:=List.length_pos_iff.2 (kd_ne hk h1)
  cases h
  exact⟨by rw[List.length_tail]; omega,rfl,rfl,h1⟩
 ·cases h
theorem Q0c {w:List UInt8} {l l' : List Qac} {u:Unit} (h:wantW w l = .ok u l'):l'.length+1=l.length:=by
 unfold wantW at h
 split at h
 ·rename_i h1
  have:=List.length_pos_iff.2 (Qd2 h1)
  cases h
  rw[List.length_tail]; omega
 ·cases h
theorem Qq6 {l l' : List Qac} {s:List UInt8} (h:nameR l = .ok s l'):l'.length+1=l.length:=by
 unfold nameR at h
 split at h
 ·rename_i h1
  have:=List.length_pos_iff.2 (kd_ne (by decide) h1.1)
  cases h
  rw[List.length_tail]; omega
 ·cases h
theorem Qq7 {w:List UInt8} {l l' : List Qac} {u:Unit} (h:endW w l = .ok u l'):l'.length+3=l.length:=by
 obtain⟨a,l1,h1,h⟩:=Qbt h
 obtain⟨b,l2,h2,h⟩:=Qbt h
 obtain⟨c,l3,h3,h⟩:=Qbt h
 cases h
 have:=(Qig (by decide) h1).1
 have:=Q0c h2
 have:=(Qig (by decide) h3).1
 omega
def NE (E:List Qac→Rs Qaa):Prop:=∀ l x l', E l = .ok x l' → nn x+l'.length≤l.length
theorem Qr4 (k:Int) (s t:List UInt8) (n:Int):nn ⟨k,s,t,n,[],[],[]⟩=1:=by simp[nn_eq,nns]
theorem Qdo {l:List Qac} (h:l≠[]):l.tail.length+1=l.length:=by
 have:=List.length_pos_iff.2 h
 rw[List.length_tail]; omega
theorem Q5i {E:List Qac→Rs Qaa} (hE:NE E) {l l' : List Qac} {xs:List Qaa} (h:argsR E l = .ok xs l'):nns xs+l'.length+1≤l.length:=by
 unfold argsR at h
 split at h
 ·rename_i h9
  have:=Qdo (kd_ne (by decide) h9)
  cases h
  simp only[nns]; omega
 ·obtain⟨x1,l1,e1,h⟩:=Qbt h
  have:=hE _ _ _ e1
  split at h
  ·rename_i h10
   have:=Qdo (kd_ne (by decide) h10)
   obtain⟨x2,l2,e2,h⟩:=Qbt h
   have:=hE _ _ _ e2
   split at h
   ·rename_i h11
    have:=Qdo (kd_ne (by decide) h11)
    obtain⟨x3,l3,e3,h⟩:=Qbt h
    have:=hE _ _ _ e3
    obtain⟨u,l4,e4,h⟩:=Qbt h
    have:=(Qig (by decide) e4).1
    cases h
    simp only[nns]; omega
   ·obtain⟨u,l4,e4,h⟩:=Qbt h
    have:=(Qig (by decide) e4).1
    cases h
    simp only[nns]; omega
  ·obtain⟨u,l4,e4,h⟩:=Qbt h
   have:=(Qig (by decide) e4).1
   cases h
   simp only[nns]; omega
theorem Q31 {E:List Qac→Rs Qaa} (hE:NE E):NE (firstR E):=fun l x l' h=>by
 unfold firstR at h
 split at h
 ·rename_i h1
  have:=Qdo (kd_ne (by decide) h1)
  cases h; rw[Qr4]; omega
 split at h
 ·rename_i h1
  have:=Qdo (kd_ne (by decide) h1)
  cases h; rw[Qr4]; omega
 split at h
 ·rename_i h1
  have:=Qdo (Qd2 h1)
  cases h; rw[Qr4]; omega
 split at h
 ·rename_i h1
  have:=Qdo (Qd2 h1)
  cases h; rw[Qr4]; omega
 split at h
 ·rename_i h1
  have:=Qdo (Qd2 h1)
  obtain⟨a,l1,e1,h⟩:=Qbt h
  have:=(Qig (by decide) e1).1
  split at h
  ·obtain⟨b,l2,e2,h⟩:=Qbt h
   have e9:=(Qig (by decide) e2).1
   have e8:=List.length_tail (l:=l1)
   cases h; rw[Qr4]
   omega
  ·cases h
 ·obtain⟨s,l1,e1,h⟩:=Qbt h
  have:=Qq6 e1
  split at h
  ·rename_i h1
   have:=Qdo (kd_ne (by decide) h1)
   obtain⟨xs,l2,e2,h⟩:=Qbt h
   have:=Q5i hE e2
   cases h
   rw[nn_eq]; simp only[nns]; omega
  ·cases h; rw[Qr4]; omega
theorem Q0d:∀ (n:Nat) (x:Qaa) (l:List Qac) (y:Qaa) (l' : List Qac),dotsR n x l = .ok y l' → nn y+l'.length≤nn x+l.length
 | 0,x,l,y,l', h=>by cases h; omega
 | n+1,x,l,y,l', h=>by
  unfold dotsR at h
  split at h
  ·rename_i h1
   have:=Qdo (kd_ne (by decide) h1)
   obtain⟨t,l1,e1,h⟩:=Qbt h
   have:=(Qig (by decide) e1).1
   have:=Q0d n _ _ _ _ h
   have e:nn ⟨5,t.Text,[],0,[x],[],[]⟩=1+nn x:=by rw[nn_eq]; simp[nns]
   rw[e] at this
   omega
  ·cases h; omega
theorem Q0e:∀ f,NE (exprR f)
 | 0=>fun l x l' h=>by cases h
 | f+1=>fun l x l' h=>by
  obtain⟨y,l1,e1,h⟩:=Qbt h
  have:=Q31 (Q0e f) _ _ _ e1
  have:=Q0d _ _ _ _ _ h
  omega
theorem Qke {l l' : List Qac} {x:Qaa} (h:closedR l = .ok x l'):nn x+l'.length+1≤l.length:=by
 obtain⟨y,l1,e1,h⟩:=Qbt h
 obtain⟨u,l2,e2,h⟩:=Qbt h
 have:=Q0e _ _ _ _ e1
 have:=(Qig (by decide) e2).1
 cases h; omega
theorem Q6o {B:Bool→Bool→List Qac→Rs (List Qaa)} (hB:∀ i o l y l', B i o l = .ok y l' → nns y+l'.length≤l.length) {l l' : List Qac} {x:Qaa} (h:actR B l = .ok x l'):nn x+l'.length≤l.length:=by
 unfold actR at h
 split at h
 ·rename_i h1
  have:=Qdo (Qd2 h1)
  obtain⟨a,l1,e1,h⟩:=Qbt h
  obtain⟨b,l2,e2,h⟩:=Qbt h
  have:=Qke e1
  have:=hB _ _ _ _ _ e2
  split at h
  ·obtain⟨c,l3,e3,h⟩:=Qbt h
   obtain⟨d,l4,e4,h⟩:=Qbt h
   obtain⟨e,l5,e5,h⟩:=Qbt h
   have:=Qq7 e3
   have:=hB _ _ _ _ _ e4
   have:=Qq7 e5
   cases h
   rw[nn_eq]; simp only[nns]; omega
  ·obtain⟨e,l5,e5,h⟩:=Qbt h
   have:=Qq7 e5
   cases h
   rw[nn_eq]; simp only[nns]; omega
 split at h
 ·rename_i h1
  have:=Qdo (Qd2 h1)
  obtain⟨a,l1,e1,h⟩:=Qbt h
  obtain⟨b,l2,e2,h⟩:=Qbt h
  obtain⟨c,l3,e3,h⟩:=Qbt h
  obtain⟨d,l4,e4,h⟩:=Qbt h
  obtain⟨e,l5,e5,h⟩:=Qbt h
  have:=Qq6 e1
  have:=Q0c e2
  have:=Qke e3
  have:=hB _ _ _ _ _ e4
  have:=Qq7 e5
  cases h
  rw[nn_eq]; simp only[nns]; omega
 split at h
 ·rename_i h1
  have:=Qdo (Qd2 h1)
  obtain⟨a,l1,e1,h⟩:=Qbt h
  obtain⟨b,l2,e2,h⟩:=Qbt h
  obtain⟨c,l3,e3,h⟩:=Qbt h
  obtain⟨d,l4,e4,h⟩:=Qbt h
  obtain⟨e,l5,e5,h⟩:=Qbt h
  have:=Qq6 e1
  have:=(Qig (by decide) e2).1
  have:=Qke e3
  have:=hB _ _ _ _ _ e4
  have:=Qq7 e5
  cases h
  rw[nn_eq]; simp only[nns]; omega
 split at h
 ·rename_i h1
  have:=Qdo (Qd2 h1)
  obtain⟨a,l1,e1,h⟩:=Qbt h
  obtain⟨b,l2,e2,h⟩:=Qbt h
  have:=Qq6 e1
  have:=Qke e2
  cases h
  rw[nn_eq]; simp only[nns]; omega
 ·obtain⟨a,l1,e1,h⟩:=Qbt h
  have:=Qke e1
  cases h
  rw[nn_eq]; simp only[nns]; omega
theorem Q5j:∀ (v:List Qaa) (k:Nat) (x y:Qaa),v[k]? = some x→nn y=nn x→nns (v.set k y)=nns v
 | [],k,x,y,h,_=>by simp at h
 | z::r,0,x,y,h,e=>by simp at h; subst h; simp[nns,e]
 | z::r,k+1,x,y,h,e=>by
  simp only[List.getElem?_cons_succ] at h
  simp only[List.set_cons_succ,nns,Q5j r k x y h e]
theorem Q32 (v:List Qaa) (s:List UInt8):nns (addLit v s)≤nns v+1:=by
 unfold addLit
 split
 ·rename_i x hx
  split
  ·rw[Q5j v _ x]
   ·omega
   ·rw[← List.getLast?_eq_getElem?]; exact hx
   ·rw[nn_eq,nn_eq]
  ·rw[Qx7]; simp[nns,nn_eq]
 ·rw[Qx7]; simp[nns,nn_eq]
theorem Qlr:∀ (f:Nat) (i o:Bool) (out:List Qaa) (l:List Qac) (y:List Qaa) (l' : List Qac),loopR f i o out l = .ok y l' → nns y+l'.length≤nns out+l.length
 | 0,i,o,out,l,y,l', h=>by cases h
 | f+1,i,o,out,l,y,l', h=>by
  unfold loopR at h
  split at h
  ·cases h; omega
  split at h
  ·rename_i hne h1
   have:=Qlr f _ _ _ _ _ _ h
   have:=Q32 out (hd l).Text
   have:=Qdo hne
   omega
  split at h
  ·cases h; omega
  split at h
  ·rename_i h2
   have:=Qdo (kd_ne (by decide) h2)
   split at h
   ·rename_i h3
    have:=Qlr f _ _ _ _ _ _ h
    have:=Qdo (kd_ne (by decide) h3)
    omega
   ·obtain⟨x,l1,e1,h⟩:=Qbt h
    have:=Q6o (fun i o l y l' e=>by have:=Qlr f i o [] l y l' e; simpa [nns] using this) e1
    have:=Qlr f _ _ _ _ _ _ h
    rw[Qx7] at this
    simp only[nns] at this
    omega
  ·cases h
noncomputable def parseP (s:List UInt8):List Qaa×Int×Int :=
 if(tokens s).2.2=0 then
  match bl20 false false (tokens s).1 with
  | .bad l=>([],(if l=[] then(s.length:Int) else(hd l).From),7)
  | .ok out _=>if 1024<nns out then([],0,5) else if 12<dps out then([],0,8) else(out,0,0)
 else([],(tokens s).2.1,(tokens s).2.2)
theorem Q6p {L l:List Qac} (hL:Toks L) (h:l <:+ L) (s:List UInt8):Qdl s L (pos L l)=some (if l=[] then(s.length:Int) else(hd l).From):=by
 unfold Qdl
 by_cases hne:l=[]
 ·subst hne; simp[Qqa]
 ·obtain⟨h1,h2,-⟩:=Qn9 h hne
  rw[h1,h2,if_neg hne]; rfl
theorem Q5k (L:List Qac):pos L L=0:=by simp[pos]
theorem prsIs (s:List UInt8):Qej s=some (parseP s):=by
 unfold Qej parseP
 rw[lTokens s,Qad]
 by_cases h0:(tokens s).2.2=0
 ·have e0:((tokens s).2.2 != 0)=false:=by simp[h0]
  have hL:=Qu2 s
  have hb:=pBlk hL false false (List.suffix_refl (tokens s).1)
  rw[Q5k] at hb
  have hs:=Qfy ((tokens s).1.length+1) false false [] (tokens s).1
  have ht:=Qjx ((tokens s).1.length+1) false false [] (tokens s).1
  simp only[e0,Bool.false_eq_true,if_false,if_pos h0,hb,Qad]
  cases hx:bl20 false false (tokens s).1 with
  | bad l =>
   unfold bl20 at hx
   rw[hx] at hs
   simp only[cBlk,Q6p hL hs,Qad]
  | ok out l =>
   unfold bl20 at hx
   rw[hx] at hs ht
   have hn:l=[]:=by simpa [Stops] using ht
   have hln:=Qlr _ _ _ _ _ _ _ hx
   have hf:=(Qr3 s).1
   simp only[nns] at hln
   simp only[cBlk,if_pos hn,Bool.false_eq_true,if_false,tCount out (by omega),Qad,tDeep out (by omega)]
   by_cases h1:1024<nns out
   ·rw[if_pos h1,if_pos (by simp; omega)]
   ·rw[if_neg h1,if_neg (by simp; omega)]
    by_cases h2:12<dps out
    ·rw[if_pos h2,if_pos (by simp; omega)]
    ·rw[if_neg h2,if_neg (by simp; omega)]
 ·have e0:((tokens s).2.2 != 0)=true:=by simp[h0]
  simp only[e0,if_true,if_neg h0]
theorem rprsIs (s:List UInt8):Qln s=some (parseP s):=by
 unfold Qln parseP
 rw[rTokens s,Qad]
 by_cases h0:(tokens s).2.2=0
 ·have e0:((tokens s).2.2 != 0)=false:=by simp[h0]
  have hL:=Qu2 s
  have hb:=rrBlk hL false false (List.suffix_refl (tokens s).1)
  rw[Q5k] at hb
  have hs:=Qfy ((tokens s).1.length+1) false false [] (tokens s).1
  have ht:=Qjx ((tokens s).1.length+1) false false [] (tokens s).1
  simp only[e0,Bool.false_eq_true,if_false,if_pos h0]
  cases hx:bl20 false false (tokens s).1 with
  | bad l =>
   rw[hx] at hb
   unfold bl20 at hx
   rw[hx] at hs
   obtain⟨x,hb⟩:=hb
   simp only[hb,Qad,if_true]
   by_cases hne:l=[]
   ·subst hne
    have e:decide (pos (tokens s).1 []<((tokens s).1.length:Int))=false:=by rw[Qqa]; simp
    simp[e]
   ·obtain⟨h1,h2,h3⟩:=Qn9 hs hne
    simp only[h3,if_true,h2,Qad,if_neg hne]
  | ok out l =>
   rw[hx] at hb
   unfold bl20 at hx
   have hb:Qas false false (tokens s).1 0 false=some (out,pos (tokens s).1 l,false):=hb
   have hln:=Qlr _ _ _ _ _ _ _ hx
   have hf:=(Qr3 s).1
   simp only[nns] at hln
   obtain⟨r1,r2⟩:=rDC 900000000 out (by omega) (by omega)
   simp only[hb,Qad,Bool.false_eq_true,if_false,r1,r2]
   by_cases h1:1024<nns out
   ·rw[if_pos h1,if_pos (by simp; omega)]
   ·rw[if_neg h1,if_neg (by simp; omega)]
    by_cases h2:12<dps out
    ·rw[if_pos h2,if_pos (by simp; omega)]
    ·rw[if_neg h2,if_neg (by simp; omega)]
 ·have e0:((tokens s).2.2 != 0)=true:=by simp[h0]
  simp only[e0,if_true,if_neg h0]
end Go.Proofs.YtagokkpnfceidaaGreatDoor
end

section
namespace Go.Proofs.YtagokkpnfceidaaGreatDoor
open Go.RowKit
set_option linter.unusedSimpArgs false
set_option linter.unusedVariables false
theorem exa1:parseP [123,123,32,105,102,32,120,46,121,32,125,125,97,123,123,32,101,110,100,32,125,125]=([⟨10,[],[],0,[⟨5,[121],[],0,[⟨4,[120],[],0,[],[],[]⟩],[],[]⟩],[⟨8,[],[97],0,[],[],[]⟩],[]⟩],0,0):=by kernel_rfl
theorem exa2:parseP [123,123,32,101,110,100,32,125,125]=([],3,7):=by kernel_rfl
theorem exa3:parseP [123,123,32,105,102,32,120,32,125,125]=([],10,7):=by kernel_rfl
theorem awake20:Qc5=some true:=by
 rw[Qc5,prsIs,prsIs,prsIs,exa1,exa2,exa3]
 rfl
theorem Q33 (s:List UInt8):nns (parseP s).1≤1024:=by
 unfold parseP
 split
 ·split
  ·simp[nns]
  ·split
   ·simp[nns]
   split
   ·simp[nns]
   ·simp only; omega
 ·simp[nns]
end Go.Proofs.YtagokkpnfceidaaGreatDoor
end

section
namespace Go.Proofs.YtagokkpnfceidaaGreatDoor
open Go.RowKit
set_option linter.unusedSimpArgs false
set_option linter.unusedVariables false
theorem boundsL1 (p0 p1:Int) (p2:Bool) (m:Nat) (hm:(wr p0).tmod 16=m) (hm2:m≤15):∀ d i,i+d=m→∀ a b:List UInt8,a.length≤10*i→b.length≤10*i→∃ a' b', Qa5 p0 p1 p2 a b i=some (a', b')∧a'.length≤150∧b'.length≤150:=by
 intro d
 induction d with
 | zero =>
  intro i h a b ha hb
  rw[Qa5,hm,ltI,decide_eq_false (by omega)]
  exact⟨a,b,rfl,by omega,by omega⟩
 | succ d ih =>
  intro i h a b ha hb
  rw[Qa5,hm,ltI,decide_eq_true (by omega),Qbx (by omega)]
  simp only[if_true]
  rw[Qgz (by simp; omega),Qad,Qgz (by simp; omega),Qad]
  exact ih (i+1) (by omega) _ _ (by simp; omega) (by simp; omega)
theorem boundsL2 (p1:Int) (p2:Bool) (m:Nat) (hm:(wr p1).tmod 600=m) (hm2:m≤600):∀ d i,i+d=m→∀ t:List UInt8,t.length≤300+7*i→∃ t', Qa6 p1 p2 (s2b t) i=some (s2b t')∧t'.length≤4500:=by
 intro d
 induction d with
 | zero =>
  intro i h t ht
  rw[Qa6,hm,ltI,decide_eq_false (by omega)]
  exact⟨t,rfl,by omega⟩
 | succ d ih =>
  intro i h t ht
  rw[Qa6,hm,ltI,decide_eq_true (by omega),Qbx (by omega)]
  simp only[if_true]
  rw[Qgc (by simp only[Qlb]; simp; omega) (by simp only[Qlb]; simp; omega),Qad,← Q1o]
  exact ih (i+1) (by omega) _ (by simp; omega)
theorem lawParseBounds (p0 p1:Int) (p2:Bool) (h0:0≤p0) (h1:p0≤255) (h2:0≤p1) (h3:p1≤65535):Qci p0 p1 p2=some true:=by
 have w0:wr p0=p0:=wr_in (by omega) (by omega)
 have w1:wr p1=p1:=wr_in (by omega) (by omega)
 have hm:(wr p0).tmod 16=((p0.toNat % 16:Nat):Int):=by rw[w0,Int.tmod_eq_emod_of_nonneg h0]; omega
 have hn:(wr p1).tmod 600=((p1.toNat % 600:Nat):Int):=by rw[w1,Int.tmod_eq_emod_of_nonneg h2]; omega
 obtain⟨a,b,e1,ha,hb⟩:=boundsL1 p0 p1 p2 _ hm (by omega) (p0.toNat % 16) 0 (by omega) [] [] (by simp) (by simp)
 obtain⟨t,e2,ht⟩:=boundsL2 p1 p2 _ hn (by omega) (p1.toNat % 600) 0 (by omega) (a++b) (by simp; omega)
 rw[Qci,show(0:Int)=((0:Nat):Int) from rfl,e1,Qad,Qgz (by simp only; omega),Qad,Qgc (by simp only[Qlb]; simp; omega) (by simp only[Qlb]; simp; omega),Qad,List.nil_append,e2,Qad,Q5b,Qad]
 have key:∀ s:List UInt8,(Qej s>>=fun x7=>Qln s>>=fun x8=>( if(x7.2.2==x8.2.2) then(if(x7.2.1==x8.2.1) then Qf6 x7.1 x8.1>>=fun x10=>if x10 then Qc5>>=fun x11=>some x11 else some false else some false) else some false:Option Bool)>>=fun o9=>some o9)=some true:=fun s=>by
  have hf:=Q33 s
  rw[prsIs,rprsIs]
  simp only[Qad,beq_self_eq_true,if_true]
  rw[rSame 1024 _ _ (by omega) hf,Q3y 1024 _ hf]
  simp only[Qad,if_true,awake20]
 cases p2 with
 | true =>
  simp only[if_true]
  rw[Qgz (by simp; omega),Qad,Qad]
  exact key _
 | false =>
  simp only[Bool.false_eq_true,if_false]
  rw[Qad]
  exact key _
end Go.Proofs.YtagokkpnfceidaaGreatDoor
end

section
namespace Go.Proofs.YtagokkpnfceidaaGreatDoor
open Go.ChangeShapes Go.WideShapes Go.ChangeAt Go.RowKit
theorem Tryz.own:ownKnob Tryz.prog.godebug=none:=by kernel_rfl
end Go.Proofs.YtagokkpnfceidaaGreatDoor
end
