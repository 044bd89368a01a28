/- The proof's texts, part 10 of 12: the walks by a logic in which data are by value, the plain laws, and at the end the law, for every input. -/
import Derived.Test.YtagokkpnfceidaaGreatDoorMgParseTrees9

noncomputable section
namespace Go.Proofs.YtagokkpnfceidaaGreatDoor
open Go.RowKit
set_option linter.unusedSimpArgs false
set_option linter.unusedVariables false
def pos(L l:List Qaa):Int:=((L.length-l.length:Nat):Int)
structure Toks (L:List Qaa):Prop where
 len:L.length≤200000
 sum:(L.map (·.Text.length)).sum≤200000
theorem Qaf1{t:Qaa}:∀ {L:List Qaa},t ∈ L→t.Text.length≤(L.map (·.Text.length)).sum
 | x::r,h=>by
  rw[List.map_cons,List.sum_cons];rcases List.mem_cons.1 h with rfl | h
  ·omega
  ·have:=Qaf1 h; omega
theorem Qail{L l:List Qaa}(h:l <:+ L):L.drop (L.length-l.length)=l:=by
 obtain⟨p,rfl⟩:=h;simp
theorem Qbg{L l:List Qaa}(h:l <:+ L):l.tail <:+ L:=(List.tail_suffix l).trans h
theorem Q44{L l:List Qaa}(hL:Toks L)(h:l <:+ L):(hd l).Text.length≤200000:=by
 cases l with
 | nil=>simp[hd]
 | cons t r=>have:=Qaf1 (h.subset (List.mem_cons_self)); have:=hL.sum; simp only[Qaf0]; omega
theorem Qpa{L l:List Qaa}(hL:Toks L)(h:l <:+ L)(hne:l≠[]):wr (pos L l+1)=pos L l.tail:=by
 have h1:=h.length_le;have h2:=hL.len;have h3:0<l.length:=List.length_pos_iff.2 hne;unfold pos;rw[Qbn (by omega),List.length_tail];congr 1; omega
theorem Qro{L l:List Qaa}(h:l <:+ L)(hne:l≠[]):(pos L l==(L.length:Int))=false∧idx L (pos L l)=some (hd l)∧decide (pos L l<(L.length:Int))=true:=by
 have h1:=h.length_le;have h3:0<l.length:=List.length_pos_iff.2 hne;refine⟨?_,?_,?_⟩
 ·unfold pos; simp; omega
 ·unfold pos;rw[Qbr];have:=Qail h;have e:L[L.length-l.length]? = (L.drop (L.length-l.length)).head? := by simp[List.head?_drop]
  rw[e,this];cases l with
  | nil=>exact absurd rfl hne
  | cons t r=>rfl
 ·unfold pos; simp; omega
theorem Qun(L:List Qaa):pos L []=(L.length:Int):=by simp[pos]
theorem Qdj{l:List Qaa}{k:Int}(hk:k≠0)(h:kd l=k):l≠[]:=fun e=>by subst e; exact hk h.symm
theorem Qea{l:List Qaa}{w:List UInt8}(h:isW w l=true):l≠[]:=fun e=>by subst e; simp[isW] at h
section
variable {L l:List Qaa} (hL:Toks L) (h:l <:+ L)
include hL h
theorem Q96:Qbj L (pos L l)=some (hd l):=by
 have _:=hL;unfold Qbj;by_cases hne:l=[]
 ·subst hne; simp[Qun]
 ·obtain⟨h1,h2,-⟩:=Qro h hne;rw[h1,h2]; rfl
theorem Q72(k:Int)(hk:k≠0):Qbz k L (pos L l)=some (if kd l=k then(true,pos L l.tail) else(false,pos L l)):=by
 unfold Qbz;rw[Q96 hL h];by_cases hkd:kd l=k
 ·have:((hd l).Kind != k)=false:=by simpa [kd] using hkd
  simp only[Qac,this,if_pos hkd,Qpa hL h (Qdj hk hkd)]; rfl
 ·have:((hd l).Kind != k)=true:=by simpa [kd] using hkd
  simp only[Qac,this,if_neg hkd]; rfl
theorem Q0b(k:Int)(hk:k≠0):Qau k L (pos L l)=some (if kd l=k then .inl (hd l,pos L l.tail) else .inr ()):=by
 unfold Qau Qa4;rw[Q96 hL h];by_cases hkd:kd l=k
 ·have:((hd l).Kind==k)=true:=by simpa [kd] using hkd
  simp only[Qac,this,Qxq,if_pos hkd,Qpa hL h (Qdj hk hkd)]; rfl
 ·have:((hd l).Kind==k)=false:=by simpa [kd] using hkd
  simp only[Qac,this,Qxq,if_neg hkd]; rfl
theorem Qxv(w:List UInt8):Qaz w L (pos L l)=some (if isW w l=true then(true,pos L l.tail) else(false,pos L l)):=by
 unfold Qaz;rw[Q96 hL h];by_cases hw:isW w l=true
 ·have h4:(hd l).Kind=4∧(hd l).Text=w:=by simpa [isW,kd] using hw
  simp[h4.1,h4.2,hw,Qpa hL h (Qea hw)]
 ·rw[if_neg hw];have hw' : isW w l=false:=by simpa using hw
  by_cases h4:(hd l).Kind=4
  ·have:((hd l).Text==w)=false:=by simpa [isW,kd,h4] using hw'
   simp[h4,this]
  ·simp[h4]
theorem Qaim:Qct L (pos L l)=some (match Qg4 l with | .ok s r =>.inl (s,pos L r) | .bad _ =>.inr ()):=by
 unfold Qct Qa4 Qg4;have ht:=Q44 hL h;rw[Q96 hL h,Qac,Qam2 _ (by omega),Qac,Q0b hL h 4 (by decide)];by_cases hn:Qfu (hd l).Text=true
 ·by_cases hk:kd l=4
  ·simp[hn,hk,Qxq]
  ·simp[hn,hk,Qxq]
 ·simp[hn,Qxq]
end
def cP{α : Type}(L:List Qaa):Rs α → (α × Int)⊕Int
 | .ok x l =>.inl (x,pos L l)
 | .bad l =>.inr (pos L l)
def Suf{α : Type}(l:List Qaa):Rs α → Prop
 | .ok _ l' => l' <:+ l∧l'.length<l.length
 | .bad l' => l' <:+ l
theorem Qcl{l:List Qaa}(h:l≠[]):l.tail.length<l.length:=by
 have:=List.length_pos_iff.2 h;rw[List.length_tail]; omega
theorem Suf.mono{α : Type}{l l' : List Qaa}{r:Rs α}(h:Suf l' r)(hs:l' <:+ l):Suf l r:=by
 have:=hs.length_le;cases r with
 | ok x l2=>exact⟨h.1.trans hs,by have:=h.2; omega⟩
 | bad l2=>exact List.IsSuffix.trans h hs
theorem Suf.bind{α β : Type}{l:List Qaa}{r:Rs α}{f : α → List Qaa→Rs β}(h:Suf l r)(hf:∀ x l', r = .ok x l' → Suf l' (f x l')∨∃ y,f x l' = .ok y l'):Suf l (r.bind f):=by
 cases r with
 | ok x l' =>
  rcases hf x l' rfl with k | ⟨y,k⟩
  ·exact k.mono h.1
  ·show Suf l (f x l'); rw[k]; exact h
 | bad l' => exact h
theorem Qhf{k:Int}(hk:k≠0)(l:List Qaa):Suf l (want k l):=by
 unfold want;split
 ·rename_i h; exact⟨List.tail_suffix l,Qcl (Qdj hk h)⟩
 ·exact List.suffix_refl l
theorem Qvq(w:List UInt8)(l:List Qaa):Suf l (Qo9 w l):=by
 unfold Qo9;split
 ·rename_i h; exact⟨List.tail_suffix l,Qcl (Qea h)⟩
 ·exact List.suffix_refl l
theorem Qfn(l:List Qaa):Suf l (Qg4 l):=by
 unfold Qg4;split
 ·rename_i h; exact⟨List.tail_suffix l,Qcl (Qdj (by decide) h.1)⟩
 ·exact List.suffix_refl l
theorem Q45(w:List UInt8)(l:List Qaa):Suf l (endW w l) :=
 Suf.bind (Qhf (by decide) l) fun _ l1 _ =>.inl (Suf.bind (Qvq w l1) fun _ l2 _ =>.inl (Suf.bind (Qhf (by decide) l2) fun _ l3 _ =>.inr ⟨_,rfl⟩))
theorem Qkb{α : Type}{l:List Qaa}{f:Rs α}(h:Suf l.tail f):Suf l f:=h.mono (List.tail_suffix l)
theorem Q97(l:List Qaa):Suf l (Qk5 l):=Suf.bind (Qhf (by decide) l) fun _ l1 _ =>.inl (by
 split
 ·exact Qkb (Suf.bind (Qhf (by decide) _) fun _ _ _ =>.inr ⟨_,rfl⟩)
 ·exact List.suffix_refl l1)
theorem Qaf2{E:List Qaa→Rs Qab}(hE:∀ l,Suf l (E l))(l:List Qaa):Suf l (Qlk E l):=by
 unfold Qlk;split
 ·rename_i h; exact⟨List.tail_suffix l,Qcl (Qdj (by decide) h)⟩
 ·refine Suf.bind (hE l) fun x1 l1 _ =>.inl ?_
  split
  ·refine Qkb (Suf.bind (hE _) fun x2 l2 _ =>.inl ?_);split
   ·exact Qkb (Suf.bind (hE _) fun x3 l3 _ =>.inl (Suf.bind (Qhf (by decide) _) fun _ _ _ =>.inr ⟨_,rfl⟩))
   ·exact Suf.bind (Qhf (by decide) _) fun _ _ _ =>.inr ⟨_,rfl⟩
  ·exact Suf.bind (Qhf (by decide) _) fun _ _ _ =>.inr ⟨_,rfl⟩
theorem Qwo{E:List Qaa→Rs Qab}(hE:∀ l,Suf l (E l))(l:List Qaa):Suf l (Qd9 E l):=by
 unfold Qd9;split
 ·rename_i h; exact⟨List.tail_suffix l,Qcl (Qdj (by decide) h)⟩
 split
 ·rename_i h; exact⟨List.tail_suffix l,Qcl (Qdj (by decide) h)⟩
 split
 ·rename_i h; exact⟨List.tail_suffix l,Qcl (Qea h)⟩
 split
 ·rename_i h; exact⟨List.tail_suffix l,Qcl (Qea h)⟩
 split
 ·exact Qkb (Q97 _)
 ·refine Suf.bind (Qfn l) fun s l1 _=>?_
  by_cases h:kd l1=8
  ·simp only[if_pos h];exact .inl (Qkb (Suf.bind (Qaf2 hE _) fun _ _ _ =>.inr ⟨_,rfl⟩))
  ·simp only[if_neg h];exact .inr ⟨_,rfl⟩
theorem Q73:∀ (n:Nat) (x:Qab) (l:List Qaa),Suf l (Qk6 n x l)∨∃ y,Qk6 n x l = .ok y l
 | 0,x,l =>.inr ⟨x,rfl⟩
 | n+1,x,l=>by
  unfold Qk6;split
  ·refine .inl (Qkb (Suf.bind (Qhf (by decide) _) fun t l2 _=>Q73 n _ l2))
  ·exact .inr ⟨x,rfl⟩
theorem Qks:∀ (f:Nat) (l:List Qaa),Suf l (Qll f l)
 | 0,l=>List.suffix_refl l
 | f+1,l=>Suf.bind (Qwo (Qks f) l) fun x l1 _=>Q73 _ x l1
theorem Qef(l:List Qaa):Suf l (Qdi l):=Suf.bind (Qks _ l) fun x l1 _ =>.inl (Suf.bind (Qhf (by decide) _) fun _ _ _ =>.inr ⟨_,rfl⟩)
section
variable {L:List Qaa} (hL:Toks L)
include hL
theorem Qh0{k:Int}{l:List Qaa}(h:kd l=k):want k l = .ok (hd l) l.tail:=by have _:=hL; unfold want; rw[if_pos h]
theorem Qff{k:Int}{l:List Qaa}(h:¬ kd l=k):want k l = .bad l:=by have _:=hL; unfold want; rw[if_neg h]
theorem Qaks{l:List Qaa}(h:l <:+ L):(Qau 8 L (pos L l)>>=fun o6 =>
      match o6 with
      | .inl x5 =>
       Qbj L x5.2>>=fun x8 =>
       Qna x8.Text>>=fun x9 =>
       Qa4 x9 L x5.2>>=fun o11 =>
       match o11 with
       | .inl x10 =>
        Qau 5 L x5.2>>=fun o14 =>
        match o14 with
        | .inl x13 =>
         Qau 9 L x13.2>>=fun o17 =>
         match o17 with
         | .inl x16 =>
          some (.inl ((Qab.mk 7 x13.1.Text [] 0 [] [] []),x16.2))
         | .inr z18 =>
          some (.inr x13.2)
        | .inr z15 =>
         some (.inr x5.2)
       | .inr z12 =>
        some (.inr x5.2)
      | .inr z7 =>
       some (.inr (pos L l)):Option ((Qab×Int)⊕Int))=some (cP L (Qk5 l)):=by
 rw[Q0b hL h 8 (by decide)];by_cases h8:kd l=8
 ·have h1:=Qbg h;simp only[if_pos h8,Qac,Qk5,Qh0 hL h8,Rs.bind,Q96 hL h1];rw[Qakg _ (by have:=Q44 hL h1; omega)];by_cases hw:Qd2 (hd l.tail).Text=true
  ·simp only[Qac,hw,Qa4,Qxq,if_true];rw[Q0b hL h1 5 (by decide)];by_cases h5:kd l.tail=5
   ·have h2:=Qbg h1;simp only[if_pos h5,Qac,h5,and_self,if_true];rw[Q0b hL h2 9 (by decide)];by_cases h9:kd l.tail.tail=9
    ·simp[if_pos h9,Qh0 hL h9,cP]
    ·simp[if_neg h9,Qff hL h9,cP]
   ·simp[if_neg h5,h5,cP]
  ·have hw' : Qd2 (hd l.tail).Text=false:=by simpa using hw
   simp[hw', Qa4,Qxq,cP]
 ·simp[if_neg h8,Qk5,Qff hL h8,Rs.bind,cP]
def PE(L:List Qaa)(n:Nat)(E:List Qaa→Rs Qab):Prop:=∀ l,l <:+ L→l.length<n→Qcu L (pos L l)=some (cP L (E l))
theorem Q0c(v:List Qab){l:List Qaa}(h:l <:+ L)(hs:¬ v.length<3∨¬ kd l=10):Qb2 L v (pos L l)=some (.inl (v,pos L l)):=by
 rw[Qb2];by_cases hv:v.length<3
 ·have h10:¬ kd l=10:=hs.resolve_left (fun k=>k hv);have e:decide ((v.length:Int)<3)=true:=by simp; omega
  simp[e,Q72 hL h 10 (by decide),h10]
 ·have e:decide ((v.length:Int)<3)=false:=by simp; omega
  simp[e]
theorem Q74(v:List Qab){n:Nat}{E:List Qaa→Rs Qab}(hE:PE L n E){l:List Qaa}(h:l <:+ L)(hn:l.length≤n)(hv:v.length<3)(h10:kd l=10) :
  Qb2 L v (pos L l)=match E l.tail with | .ok x l2=>Qb2 L (v++[x]) (pos L l2) | .bad l2=>some (.inr (pos L l2)):=by
 rw[Qb2];have e:decide ((v.length:Int)<3)=true:=by simp; omega
 have hne:=Qdj (by decide) h10;have:=Qcl hne;simp only[e,if_true,Q72 hL h 10 (by decide),if_pos h10,Qac,hE l.tail (Qbg h) (by omega)];cases hx:E l.tail with
 | ok x l2=>simp only[cP,Qac,Qin (show(v.length+[x].length)*120≤140737488355328 by simp; omega) (by simp; omega)]
 | bad l2=>simp[cP]
theorem pFin(xs:List Qab){l:List Qaa}(h:l <:+ L):(Qau 9 L (pos L l)>>=fun o15 =>
    match o15 with
    | .inl x14=>some (.inl (xs,x14.2))
    | .inr z16=>some (.inr (pos L l)):Option ((List Qab×Int)⊕Int))=some (cP L ((want 9 l).bind fun _ l4 =>.ok xs l4)):=by
 rw[Q0b hL h 9 (by decide)];by_cases h9:kd l=9
 ·simp[if_pos h9,Qh0 hL h9,cP,Rs.bind]
 ·simp[if_neg h9,Qff hL h9,cP,Rs.bind]
theorem Qam9{n:Nat}{E:List Qaa→Rs Qab}(hE:PE L n E)(hS:∀ l,Suf l (E l)){l:List Qaa}(h:l <:+ L)(hn:l.length<n):Qeq L (pos L l)=some (cP L (Qlk E l)):=by
 rw[Qeq,Q72 hL h 9 (by decide)];by_cases h9:kd l=9
 ·simp[if_pos h9,Qlk,cP]
 ·simp only[if_neg h9,Qac,Qlk,Bool.false_eq_true,if_false,hE l h hn];have s1:=hS l;cases hx:E l with
  | bad l2=>simp[cP,Rs.bind]
  | ok x1 l1 =>
   rw[hx] at s1;have t1:l1 <:+ L:=s1.1.trans h;simp only[cP,Qac,Rs.bind];by_cases h10:kd l1=10
   ·rw[Q74 hL [x1] hE t1 (by have:=s1.2; omega) (by simp) h10,if_pos h10];have s2:=hS l1.tail;cases hx2:E l1.tail with
    | bad l2=>simp[cP,Rs.bind]
    | ok x2 l2 =>
     rw[hx2] at s2;have t2:l2 <:+ L:=s2.1.trans (Qbg t1);have n2:l2.length≤n:=by have:=s2.2; have:=Qcl (Qdj (by decide) h10); have:=s1.2; omega
     simp only[Rs.bind];by_cases h102:kd l2=10
     ·rw[Q74 hL ([x1]++[x2]) hE t2 n2 (by simp) h102,if_pos h102];have s3:=hS l2.tail;cases hx3:E l2.tail with
      | bad l3=>simp[cP,Rs.bind]
      | ok x3 l3 =>
       rw[hx3] at s3;have t3:l3 <:+ L:=s3.1.trans (Qbg t2);simp only[Rs.bind];rw[Q0c hL ([x1]++[x2]++[x3]) t3 (.inl (by simp)),Qac];exact pFin hL [x1,x2,x3] t3
     ·rw[if_neg h102];rw[Q0c hL ([x1]++[x2]) t2 (.inr h102),Qac];exact pFin hL [x1,x2] t2
   ·rw[Q0c hL [x1] t1 (.inr h10),if_neg h10,Qac];exact pFin hL [x1] t1
theorem Qalx{n:Nat}{E:List Qaa→Rs Qab}(hE:PE L n E)(hS:∀ l,Suf l (E l)){l:List Qaa}(h:l <:+ L)(hn:l.length≤n):Qf2 L (pos L l)=some (cP L (Qd9 E l)):=by
 rw[Qf2,Q96 hL h,Qac];by_cases h5:kd l=5
 ·have e:((hd l).Kind==5)=true:=by simpa [kd] using h5
  simp only[e,if_true,Qd9,if_pos h5,cP,Qpa hL h (Qdj (by decide) h5)]
 have e5:((hd l).Kind==5)=false:=by simpa [kd] using h5
 by_cases h6:kd l=6
 ·have e:((hd l).Kind==6)=true:=by simpa [kd] using h6
  simp only[e5,e,if_true,Bool.false_eq_true,if_false,Qd9,if_neg h5,if_pos h6,cP,Qpa hL h (Qdj (by decide) h6)]
 have e6:((hd l).Kind==6)=false:=by simpa [kd] using h6
 simp only[e5,e6,Bool.false_eq_true,if_false,Qd9,if_neg h5,if_neg h6,Qxv hL h,Qac];by_cases w1:isW Qadh l=true
 ·simp only[if_pos w1,if_true,cP]
 rw[if_neg w1,if_neg (show ¬ isW [116,114,117,101] l=true from w1)];simp only[Bool.false_eq_true,if_false,Qxv hL h,Qac];by_cases w2:isW Q0a l=true
 ·simp only[if_pos w2,if_true,cP]
 rw[if_neg w2,if_neg (show ¬ isW [102,97,108,115,101] l=true from w2)];simp only[Bool.false_eq_true,if_false,Qxv hL h,Qac];by_cases w3:isW Qrn l=true
 ·rw[if_pos w3,if_pos (show isW [115,101,99,114,101,116] l=true from w3)];simp only[if_true];exact Qaks hL (Qbg h)
 rw[if_neg w3,if_neg (show ¬ isW [115,101,99,114,101,116] l=true from w3)];simp only[Bool.false_eq_true,if_false,Qaim hL h,Qac];have s1:=Qfn l;cases hx:Qg4 l with
 | bad l1 =>
  have:l1=l:=by unfold Qg4 at hx; split at hx<;>cases hx; rfl
  subst this;simp[Rs.bind,cP]
 | ok s l1 =>
  rw[hx] at s1;have t1:l1 <:+ L:=s1.1.trans h;simp only[Rs.bind];rw[Q72 hL t1 8 (by decide)];by_cases h8:kd l1=8
  ·have:=Qcl (Qdj (by decide) h8);simp only[if_pos h8,Qac,if_true];rw[Qam9 hL hE hS (Qbg t1) (by have:=s1.2; omega)];cases hy:Qlk E l1.tail with
   | ok xs l2=>simp[cP]
   | bad l2=>simp[cP]
  ·simp[if_neg h8,cP]
theorem Qana:∀ (n:Nat) (x:Qab) (l:List Qaa),l <:+ L→l.length≤n →
  (Qcf L (pos L l) x.Kind x.Name x.Text x.N x.L x.Then x.Else>>=fun o4 =>
  match o4 with
  | .inl y5 =>
   some (.inl ((Qab.mk y5.2.1 y5.2.2.1 y5.2.2.2.1 y5.2.2.2.2.1 y5.2.2.2.2.2.1 y5.2.2.2.2.2.2.1 y5.2.2.2.2.2.2.2),y5.1))
  | .inr y6 =>
   some (.inr y6.1):Option ((Qab×Int)⊕Int))=some (cP L (Qk6 n x l)):=by
 intro n
 induction n with
 | zero =>
  intro x l h hn;have:l=[]:=List.eq_nil_of_length_eq_zero (by omega);subst this;rw[Qcf,Q72 hL h 7 (by decide)];simp only[Qalw,show ¬ (0:Int)=7 by decide,if_false,Qac,cP,Qk6,Bool.false_eq_true];cases x; rfl
 | succ n ih =>
  intro x l h hn;rw[Qcf,Q72 hL h 7 (by decide)];by_cases h7:kd l=7
  ·have h1:=Qbg h;have:=Qcl (Qdj (by decide) h7);simp only[if_pos h7,Qac,if_true,Qk6];rw[Q0b hL h1 4 (by decide)];by_cases h4:kd l.tail=4
   ·have:=Qcl (Qdj (by decide) h4);simp only[if_pos h4,Qac,Qh0 hL h4,Rs.bind];have:=ih ⟨5,(hd l.tail).Text,[],0,[x],[],[]⟩ l.tail.tail (Qbg h1) (by omega);cases x;exact this
   ·simp[if_neg h4,Qff hL h4,Rs.bind,cP]
  ·simp only[if_neg h7,Qac,cP,Qk6,Bool.false_eq_true,if_false];cases x; rfl
theorem Qaly:∀ (f:Nat),PE L f (Qll f)
 | 0=>fun l h hn=>absurd hn (by omega)
 | f+1=>fun l h hn=>by
  rw[Qcu,Qalx hL (Qaly f) (Qks f) h (by omega),Qac,Qll];have s1:=Qwo (Qks f) l;cases hx:Qd9 (Qll f) l with
  | bad l1=>simp[cP,Rs.bind]
  | ok x l1 =>
   rw[hx] at s1;simp only[cP,Rs.bind];exact Qana hL l1.length x l1 (s1.1.trans h) (Nat.le_refl _)
theorem pEx{l:List Qaa}(h:l <:+ L):Qcu L (pos L l)=some (cP L (ex20 l)):=Qaly hL (l.length+1) l h (by omega)
theorem Q0d{l:List Qaa}(h:l <:+ L):Qbv L (pos L l)=some (match Qdi l with | .ok x l' =>.inl ([x],pos L l') | .bad l' =>.inr (pos L l')):=by
 rw[Qbv,pEx hL h,Qac];have s1:=Qks (l.length+1) l;unfold Qdi;cases hx:ex20 l with
 | bad l1=>simp[cP,Rs.bind]
 | ok x l1 =>
  unfold ex20 at hx;rw[hx] at s1;simp only[cP,Rs.bind];rw[Q0b hL (s1.1.trans h) 3 (by decide)];by_cases h3:kd l1=3
  ·simp[if_pos h3,Qh0 hL h3]
  ·simp[if_neg h3,Qff hL h3]
end
section
variable {L:List Qaa} (hL:Toks L)
include hL
section
variable {l:List Qaa} (h:l <:+ L)
include h
theorem rrIs(k:Int)(hk:k≠0)(b:Bool):Qap k L (pos L l) b=some (!b&&decide (kd l=k)):=by
 have _:=hL;unfold Qap;cases b with
 | true=>rfl
 | false =>
  by_cases hne:l=[]
  ·subst hne;have e:decide (pos L []<(L.length:Int))=false:=by rw[Qun]; simp
   have:¬ (0:Int)=k:=fun h=>hk h.symm
   simp[e,this]
  ·obtain⟨h1,h2,h3⟩:=Qro h hne;simp only[Bool.not_false,if_true,h3,h2,Qac,Bool.true_and];congr 1
theorem Qlm(k:Int)(hk:k≠0):Qap k L (pos L l) false=some (decide (kd l=k)):=by rw[rrIs hL h k hk]; simp
theorem Qs5(k:Int)(hk:k≠0):Qap k L (pos L l) true=some false:=by rw[rrIs hL h k hk]; simp
theorem Qdf(hne:l≠[]):Qaj true L (pos L l) false=some (hd l,pos L l.tail,false):=by
 unfold Qaj;have h1:=h.length_le;have h2:=hL.len;have e:wr (pos L l.tail-1)=pos L l:=by
  have h3:0<l.length:=List.length_pos_iff.2 hne;unfold pos;rw[Qd0 (by omega) (by omega),List.length_tail];omega
 simp[Qpa hL h hne,e,(Qro h hne).2.1]
theorem Qgt(b:Bool):Qaj false L (pos L l) b=some (Tk0,pos L l,true):=by
 have _:=hL; have _:=h;unfold Qaj; simp
theorem Qkt(ok:Bool):Qaj ok L (pos L l) true=some (Tk0,pos L l,true):=by
 have _:=hL; have _:=h;unfold Qaj; cases ok<;>simp
theorem Qpb(w:List UInt8)(b:Bool):Qbl w L (pos L l) b=some (!b&&isW w l):=by
 unfold Qbl;rw[rrIs hL h 4 (by decide)];cases b with
 | true=>simp
 | false =>
  by_cases h4:kd l=4
  ·simp only[Bool.not_false,Bool.true_and,h4,decide_true,Qac,if_true,(Qro h (Qdj (by decide) h4)).2.1,isW,beq_self_eq_true]
  ·have:(kd l==4)=false:=by simpa using h4
   simp[h4,isW,this]
theorem Q46:Qcz L (pos L l) false=some (match Qg4 l with | .ok s r=>(s,pos L r,false) | .bad r=>([],pos L r,true)):=by
 unfold Qcz Qg4;rw[Qlm hL h 4 (by decide),Qac];by_cases h4:kd l=4
 ·have hne:=Qdj (by decide) h4;have ht:=Q44 hL h;simp only[h4,decide_true,if_true,(Qro h hne).2.1,Qac];rw[Qaki _ (by omega),Qac];cases hn:Qfu (hd l).Text with
  | true=>simp[Qdf hL h hne]
  | false=>simp[Qgt hL h]
 ·simp[h4,Qgt hL h]
theorem Qakt:Qcz L (pos L l) true=some ([],pos L l,true):=by
 unfold Qcz;rw[Qs5 hL h 4 (by decide),Qac];simp[Qkt hL h]
theorem Q2h(k:Int)(hk:k≠0):Qaj (decide (kd l=k)) L (pos L l) false=some (match want k l with | .ok t r=>(t,pos L r,false) | .bad r=>(Tk0,pos L r,true)):=by
 by_cases h4:kd l=k
 ·simp[h4,Qh0 hL h4,Qdf hL h (Qdj hk h4)]
 ·simp[h4,Qff hL h4,Qgt hL h]
theorem Qaf3(w:List UInt8):Qaj (isW w l) L (pos L l) false=some (match Qo9 w l with | .ok _ r=>(hd l,pos L r,false) | .bad r=>(Tk0,pos L r,true)):=by
 unfold Qo9;cases hw:isW w l with
 | true=>simp[Qdf hL h (Qea hw)]
 | false=>simp[Qgt hL h]
theorem Qyc(w:List UInt8)(b:Bool):Qbw w L (pos L l) b=some (!b&&Qde w l):=by
 unfold Qbw;rw[rrIs hL h 2 (by decide)];cases b with
 | true=>simp
 | false =>
  by_cases h2:kd l=2
  ·have hne:=Qdj (by decide) h2;have h1:=Qbg h;simp only[Bool.not_false,Bool.true_and,h2,decide_true,Qac,if_true,Qpa hL h hne];by_cases hn:l.tail=[]
   ·have e:decide (pos L l.tail<(L.length:Int))=false:=by rw[hn,Qun]; simp
    have ea:Qde w l=false:=by simp[Qde,hn,isW]
    rw[ea,e]; rfl
   ·obtain⟨-,e2,e3⟩:=Qro h1 hn;simp only[e3,if_true,e2,Qac];by_cases h4:kd l.tail=4
    ·have:((hd l.tail).Kind==4)=true:=by simpa [kd] using h4
     simp[this,Qde,h2,isW,h4]
    ·have:((hd l.tail).Kind==4)=false:=by simpa [kd] using h4
     have h4' : (kd l.tail==4)=false:=by simpa using h4
     simp[this,Qde,h2,isW,h4']
  ·have h2' : (kd l==2)=false:=by simpa using h2
   simp[h2,Qde,h2']
theorem Qabp:Qa8 L (pos L l) false=some (match want 3 l with | .ok _ r=>(pos L r,false) | .bad r=>(pos L r,true)):=by
 unfold Qa8;rw[Qlm hL h 3 (by decide),Qac,Q2h hL h 3 (by decide),Qac];cases want 3 l<;>rfl
theorem Qpc:Qa8 L (pos L l) true=some (pos L l,true):=by
 unfold Qa8;rw[Qs5 hL h 3 (by decide),Qac,Qkt hL h]; rfl
theorem Q0e(w:List UInt8):Qck w L (pos L l) true=some (pos L l,true):=by
 unfold Qck;rw[Qs5 hL h 2 (by decide),Qac,Qkt hL h,Qac,Qpb hL h,Qac,Qkt hL h,Qac,Qpc hL h]; rfl
end
theorem Qabq{l:List Qaa}(h:l <:+ L)(w:List UInt8):Qck w L (pos L l) false=some (match endW w l with | .ok _ r=>(pos L r,false) | .bad r=>(pos L r,true)):=by
 unfold Qck endW;rw[Qlm hL h 2 (by decide),Qac,Q2h hL h 2 (by decide),Qac];have s1:=Qhf (k:=2) (by decide) l;cases hx:want 2 l with
 | bad l1 =>
  rw[hx] at s1;have h1:l1 <:+ L:=List.IsSuffix.trans s1 h;simp only[Rs.bind];rw[Qpb hL h1,Qac,Qkt hL h1,Qac,Qpc hL h1]; rfl
 | ok t l1 =>
  rw[hx] at s1;have h1:l1 <:+ L:=s1.1.trans h;simp only[Rs.bind];rw[Qpb hL h1,Qac];simp only[Bool.not_false,Bool.true_and];rw[Qaf3 hL h1,Qac];have s2:=Qvq w l1;cases hy:Qo9 w l1 with
  | bad l2 =>
   rw[hy] at s2;have h2:l2 <:+ L:=List.IsSuffix.trans s2 h1;simp only;rw[Qpc hL h2]; rfl
  | ok u l2 =>
   rw[hy] at s2;have h2:l2 <:+ L:=s2.1.trans h1;simp only;rw[Qabp hL h2];cases want 3 l2<;>rfl
def Qdq{α : Type}(L:List Qaa)(o:Option (α × Int×Bool))(r:Rs α):Prop:=match r with
 | .ok x l=>o=some (x,pos L l,false)
 | .bad l=>∃ x,o=some (x,pos L l,true)
theorem Q98(x:Qab){l:List Qaa}(h:l <:+ L):Qb6 L (pos L l) true x.Kind x.Name x.Text x.N x.L x.Then x.Else=some (pos L l,true,x.Kind,x.Name,x.Text,x.N,x.L,x.Then,x.Else):=by
 rw[Qb6,Qs5 hL h 7 (by decide)]; rfl
theorem Qain{l:List Qaa}(h:l <:+ L):Qdn L (pos L l) true=some (⟨4,[],[],0,[],[],[]⟩,pos L l,true):=by
 rw[Qdn,Qs5 hL h 5 (by decide)];simp only[Qac,Bool.false_eq_true,if_false,Qs5 hL h 6 (by decide),Qpb hL h,Bool.not_true,Bool.false_and,Qakt hL h,Qs5 hL h 8 (by decide),Bool.not_false,if_true]
theorem Q99{l:List Qaa}(h:l <:+ L):Qay L (pos L l) true=some (⟨4,[],[],0,[],[],[]⟩,pos L l,true):=by
 rw[Qay,Qain hL h,Qac];simp only;have:=Q98 hL ⟨4,[],[],0,[],[],[]⟩ h;simp only at this;rw[this]; rfl
def RE(L:List Qaa)(n:Nat)(E:List Qaa→Rs Qab):Prop:=∀ l,l <:+ L→l.length<n→Qdq L (Qay L (pos L l) false) (E l)
theorem Qalz:∀ (n:Nat) (x:Qab) (l:List Qaa),l <:+ L→l.length≤n →
  Qdq L (Qb6 L (pos L l) false x.Kind x.Name x.Text x.N x.L x.Then x.Else>>=fun o2 =>
   some ((Qab.mk o2.2.2.1 o2.2.2.2.1 o2.2.2.2.2.1 o2.2.2.2.2.2.1 o2.2.2.2.2.2.2.1 o2.2.2.2.2.2.2.2.1 o2.2.2.2.2.2.2.2.2),o2.1,o2.2.1)) (Qk6 n x l):=by
 intro n
 induction n with
 | zero =>
  intro x l h hn;have:l=[]:=List.eq_nil_of_length_eq_zero (by omega);subst this;rw[Qb6,Qlm hL h 7 (by decide)];simp[Qdq,Qk6];cases x; rfl
 | succ n ih =>
  intro x l h hn;rw[Qb6,Qlm hL h 7 (by decide)];by_cases h7:kd l=7
  ·have h1:=Qbg h;have hne:=Qdj (by decide) h7;have:=Qcl hne;simp only[h7,decide_true,Qac,if_true,Qk6,Qdf hL h hne,Qlm hL h1 4 (by decide)];rw[Q2h hL h1 4 (by decide)];by_cases h4:kd l.tail=4
   ·have:=Qcl (Qdj (by decide) h4);simp only[Qh0 hL h4,Qac,Rs.bind];have:=ih ⟨5,(hd l.tail).Text,[],0,[x],[],[]⟩ l.tail.tail (Qbg h1) (by omega);cases x;exact this
   ·simp only[Qff hL h4,Qac,Rs.bind,Qdq];have:=Q98 hL ⟨5,[],[],0,[⟨x.Kind,x.Name,x.Text,x.N,x.L,x.Then,x.Else⟩],[],[]⟩ h1;simp only at this;rw[this];exact⟨_,rfl⟩
  ·simp[h7,Qk6,Qdq];cases x; rfl
theorem Qaio{l:List Qaa}(h:l <:+ L):Qdq L (Qap 8 L (pos L l) false>>=fun x11 =>
      Qaj x11 L (pos L l) false>>=fun x12 =>
      ( Qap 5 L x12.2.1 x12.2.2>>=fun x14 =>
       if x14 then
        idx L x12.2.1>>=fun x15 =>
        Qj9 x15.Text>>=fun x16 =>
        Qaj x16 L x12.2.1 x12.2.2>>=fun x17 =>
        some (x17.2.1,x17.2.2,x17.1.Kind,x17.1.Text,x17.1.N,x17.1.From,x17.1.To)
       else
        Qaj false L x12.2.1 x12.2.2>>=fun x18 =>
        some (x18.2.1,x18.2.2,x18.1.Kind,x18.1.Text,x18.1.N,x18.1.From,x18.1.To):Option ((Int×Bool×Int×(List UInt8)×Int×Int×Int)))>>=fun o13 =>
      Qap 9 L o13.1 o13.2.1>>=fun x19 =>
      Qaj x19 L o13.1 o13.2.1>>=fun x20 =>
      some ((Qab.mk 7 o13.2.2.2.1 [] 0 [] [] []),x20.2.1,x20.2.2)) (Qk5 l):=by
 rw[Qlm hL h 8 (by decide),Qac,Q2h hL h 8 (by decide),Qac];have h1:=Qbg h;by_cases h8:kd l=8
 ·simp only[Qh0 hL h8,Qk5,Rs.bind,Qlm hL h1 5 (by decide),Qac];by_cases h5:kd l.tail=5
  ·have hne:=Qdj (by decide) h5;simp only[h5,decide_true,if_true,(Qro h1 hne).2.1,Qac,true_and];rw[Qaig _ (by have:=Q44 hL h1; omega),Qac];by_cases hw:Qd2 (hd l.tail).Text=true
   ·have h2:=Qbg h1;simp only[hw,Qdf hL h1 hne,Qac,if_true,Qlm hL h2 9 (by decide)];rw[Q2h hL h2 9 (by decide)];by_cases h9:kd l.tail.tail=9
    ·simp[Qh0 hL h9,Qdq]
    ·simp[Qff hL h9,Qdq]
   ·have hw' : Qd2 (hd l.tail).Text=false:=by simpa using hw
    simp only[hw', Qgt hL h1,Qac,Qs5 hL h1 9 (by decide),Qkt hL h1,Bool.false_eq_true,if_false,Qdq];exact⟨_,rfl⟩
  ·simp only[h5,decide_false,Bool.false_eq_true,if_false,Qgt hL h1,Qac,Qs5 hL h1 9 (by decide),Qkt hL h1,false_and,Qdq];exact⟨_,rfl⟩
 ·simp only[Qff hL h8,Qk5,Rs.bind,Qs5 hL h 5 (by decide),Qac,Bool.false_eq_true,if_false,Qgt hL h,Qs5 hL h 9 (by decide),Qkt hL h,Qdq];exact⟨_,rfl⟩
def Qal0(L:List Qaa)(o:Option (Int×Bool×List Qab))(r:Rs (List Qab)):Prop:=match r with
 | .ok xs l4=>∃ l3,l3 <:+ L∧kd l3=9∧l4=l3.tail∧o=some (pos L l3,false,xs)
 | .bad l' => l' <:+ L∧∃ b ys,o=some (pos L l', b,ys)∧(b=true∨¬ kd l' = 9)
theorem Q0f(x21:(List UInt8)×Int×Bool)(v:Int)(ys:List Qab){l:List Qaa}(h:l <:+ L):Qaq L x21 v (pos L l) true ys=some (pos L l,true,ys):=by
 have _:=hL; have _:=h;rw[Qaq];cases hv:decide (v<3)<;>simp
theorem Qaaa(x21:(List UInt8)×Int×Bool){n:Nat}{E:List Qaa→Rs Qab}(hE:RE L n E){l:List Qaa}(h:l <:+ L)(hn:l.length<n)(i:Nat)(hi:i<3)(ys:List Qab)(hy:ys.length=i) :
  match E l with
  | .bad l1=>∃ zs,Qaq L x21 (i:Int) (pos L l) false ys=some (pos L l1,true,zs)∨¬ l1 <:+ L
  | .ok x l1=>l1 <:+ L→(kd l1=9→Qaq L x21 (i:Int) (pos L l) false ys=some (pos L l1,false,ys++[x])) ∧
   (¬ kd l1=9→i<2→kd l1=10→Qaq L x21 (i:Int) (pos L l) false ys=Qaq L x21 ((i+1:Nat):Int) (pos L l1.tail) false (ys++[x])) ∧
   (¬ kd l1=9→i<2→¬ kd l1=10→Qaq L x21 (i:Int) (pos L l) false ys=some (pos L l1,true,ys++[x])) ∧
   (¬ kd l1=9→i=2→Qaq L x21 (i:Int) (pos L l) false ys=some (pos L l1,false,ys++[x])):=by
 have e3:decide (((i:Nat):Int)<3)=true:=by simp; omega
 have hx:=hE l h hn;have ea:∀ z:Qab,appL 120 ys [z]=some (ys++[z]):=fun z=>Qin (by simp; omega) (by simp; omega)
 cases hr:E l with
 | bad l1 =>
  rw[hr] at hx;obtain⟨x,hx⟩:=hx;by_cases hs:l1 <:+ L
  ·refine⟨ys++[x],.inl ?_⟩;rw[Qaq];simp only[e3,if_true,Bool.not_false,Qac,hx,ea,Qs5 hL hs 9 (by decide),Bool.false_eq_true,if_false];by_cases h2:i<2
   ·have e2:decide (((i:Nat):Int)<2)=true:=by simp; omega
    simp only[e2,if_true,Qs5 hL hs 10 (by decide),Qac,Qgt hL hs,Q0f hL x21 _ _ hs]
   ·have e2:decide (((i:Nat):Int)<2)=false:=by simp; omega
    simp only[e2,Bool.false_eq_true,if_false,Q0f hL x21 _ _ hs]
  ·exact⟨[],.inr hs⟩
 | ok x l1 =>
  rw[hr] at hx;have hx:Qay L (pos L l) false=some (x,pos L l1,false):=hx;intro hs;refine⟨fun h9=>?_,fun h9 h2 h10=>?_,fun h9 h2 h10=>?_,fun h9 h2=>?_⟩
  ·rw[Qaq];simp only[e3,if_true,Bool.not_false,Qac,hx,ea,Qlm hL hs 9 (by decide),h9,decide_true]
  ·have e2:decide (((i:Nat):Int)<2)=true:=by simp; omega
   rw[Qaq];simp only[e3,if_true,Bool.not_false,Qac,hx,ea,Qlm hL hs 9 (by decide),h9,decide_false,Bool.false_eq_true,if_false,e2,Qlm hL hs 10 (by decide),h10,decide_true,Qdf hL hs (Qdj (by decide) h10),Qbn (show i<9223372036854775807 by omega)];rw[if_neg (by decide)]
  ·have e2:decide (((i:Nat):Int)<2)=true:=by simp; omega
   rw[Qaq];simp only[e3,if_true,Bool.not_false,Qac,hx,ea,Qlm hL hs 9 (by decide),h9,decide_false,Bool.false_eq_true,if_false,e2,Qlm hL hs 10 (by decide),h10,Qgt hL hs,Q0f hL x21 _ _ hs]
  ·subst h2;have e2:decide (((2:Nat):Int)<2)=false:=by simp
   have e4:decide (wr (((2:Nat):Int)+1)<3)=false:=by rw[Qbn (by omega)]; rfl
   rw[Qaq];simp only[e3,if_true,Bool.not_false,Qac,hx,ea,Qlm hL hs 9 (by decide),h9,decide_false,Bool.false_eq_true,if_false,e2];rw[Qaq];simp only[e4,Bool.false_eq_true,if_false,Qac]
theorem Qal1(x21:(List UInt8)×Int×Bool){n:Nat}{E:List Qaa→Rs Qab}(hE:RE L n E)(hS:∀ l,Suf l (E l)){l:List Qaa}(h:l <:+ L)(hn:l.length<n)(h9:¬ kd l=9):Qal0 L (Qaq L x21 0 (pos L l) false []) (Qlk E l):=by
 unfold Qlk;rw[if_neg h9];have a1:=Qaaa hL x21 hE h hn 0 (by omega) [] rfl;have s1:=hS l;cases hx:E l with
 | bad l1 =>
  rw[hx] at a1 s1;have hs:l1 <:+ L:=List.IsSuffix.trans s1 h;obtain⟨zs,a1⟩:=a1;exact⟨hs,true,zs,a1.resolve_right (fun k=>k hs),.inl rfl⟩
 | ok x1 l1 =>
  rw[hx] at a1 s1;have t1:l1 <:+ L:=s1.1.trans h;obtain⟨b1,b2,b3,b4⟩:=a1 t1;simp only[Rs.bind];by_cases h91:kd l1=9
  ·have:¬ kd l1=10:=by rw[h91]; decide
   rw[if_neg this,Qh0 hL h91];exact⟨l1,t1,h91,rfl,b1 h91⟩
  by_cases h101:kd l1=10
  ·rw[if_pos h101];have n2:l1.tail.length<n:=by have:=Qcl (Qdj (by decide) h101); have:=s1.2; omega
   have a2:=Qaaa hL x21 hE (Qbg t1) n2 1 (by omega) ([]++[x1]) rfl;have s2:=hS l1.tail;have e1:=b2 h91 (by omega) h101;simp only[Nat.zero_add] at e1;rw[show((0:Nat):Int)=0 from rfl] at e1;rw[e1];cases hx2:E l1.tail with
   | bad l2 =>
    rw[hx2] at a2 s2;have hs:l2 <:+ L:=List.IsSuffix.trans s2 (Qbg t1);obtain⟨zs,a2⟩:=a2;exact⟨hs,true,zs,a2.resolve_right (fun k=>k hs),.inl rfl⟩
   | ok x2 l2 =>
    rw[hx2] at a2 s2;have t2:l2 <:+ L:=s2.1.trans (Qbg t1);obtain⟨c1,c2,c3,c4⟩:=a2 t2;simp only[Rs.bind];by_cases h92:kd l2=9
    ·have:¬ kd l2=10:=by rw[h92]; decide
     rw[if_neg this,Qh0 hL h92];exact⟨l2,t2,h92,rfl,c1 h92⟩
    by_cases h102:kd l2=10
    ·rw[if_pos h102];have n3:l2.tail.length<n:=by have:=Qcl (Qdj (by decide) h102); have:=s2.2; omega
     have a3:=Qaaa hL x21 hE (Qbg t2) n3 2 (by omega) ([]++[x1]++[x2]) rfl;have s3:=hS l2.tail;rw[c2 h92 (by omega) h102];cases hx3:E l2.tail with
     | bad l3 =>
      rw[hx3] at a3 s3;have hs:l3 <:+ L:=List.IsSuffix.trans s3 (Qbg t2);obtain⟨zs,a3⟩:=a3;exact⟨hs,true,zs,a3.resolve_right (fun k=>k hs),.inl rfl⟩
     | ok x3 l3 =>
      rw[hx3] at a3 s3;have t3:l3 <:+ L:=s3.1.trans (Qbg t2);obtain⟨d1,-,-,d4⟩:=a3 t3;simp only[Rs.bind];by_cases h93:kd l3=9
      ·rw[Qh0 hL h93];exact⟨l3,t3,h93,rfl,d1 h93⟩
      ·rw[Qff hL h93];exact⟨t3,false,_,d4 h93 rfl,.inr h93⟩
    ·rw[if_neg h102,Qff hL h92];exact⟨t2,true,_,c3 h92 (by omega) h102,.inl rfl⟩
  ·rw[if_neg h101,Qff hL h91];exact⟨t1,true,_,b3 h91 (by omega) h101,.inl rfl⟩
theorem Qaku{n:Nat}{E:List Qaa→Rs Qab}(hE:RE L n E)(hS:∀ l,Suf l (E l)){l:List Qaa}(h:l <:+ L)(hn:l.length≤n):Qdq L (Qdn L (pos L l) false) (Qd9 E l):=by
 rw[Qdn,Qlm hL h 5 (by decide),Qac];unfold Qd9;by_cases h5:kd l=5
 ·simp[h5,Qdf hL h (Qdj (by decide) h5),Qdq]
 simp only[h5,decide_false,Bool.false_eq_true,if_false,Qlm hL h 6 (by decide),Qac];by_cases h6:kd l=6
 ·simp[h6,Qdf hL h (Qdj (by decide) h6),Qdq]
 simp only[h6,decide_false,Bool.false_eq_true,if_false,Qpb hL h,Qac,Bool.not_false,Bool.true_and];by_cases w1:isW Qadh l=true
 ·simp[w1,Qdf hL h (Qea w1),Qdq]
 rw[if_neg w1,if_neg w1];by_cases w2:isW Q0a l=true
 ·simp[w2,Qdf hL h (Qea w2),Qdq]
 rw[if_neg w2,if_neg w2];by_cases w3:isW Qrn l=true
 ·rw[if_pos w3,if_pos w3,Qdf hL h (Qea w3),Qac];exact Qaio hL (Qbg h)
 rw[if_neg w3,if_neg w3,Q46 hL h,Qac];have s1:=Qfn l;cases hx:Qg4 l with
 | bad l1 =>
  rw[hx] at s1;have hs:l1 <:+ L:=List.IsSuffix.trans s1 h;simp only[Rs.bind,Qs5 hL hs 8 (by decide),Qac,Bool.not_false,if_true,Qdq];exact⟨_,rfl⟩
 | ok s l1 =>
  rw[hx] at s1;have t1:l1 <:+ L:=s1.1.trans h;simp only[Rs.bind,Qlm hL t1 8 (by decide),Qac];by_cases h8:kd l1=8
  ·have t2:=Qbg t1;have:=Qcl (Qdj (by decide) h8);have n2:l1.tail.length<n:=by have:=s1.2; omega
   simp only[h8,decide_true,Bool.not_true,Bool.false_eq_true,if_false,if_true,Qdf hL t1 (Qdj (by decide) h8),Qac,Qlm hL t2 9 (by decide)];by_cases h9:kd l1.tail=9
   ·simp only[h9,decide_true,if_true,Qdf hL t2 (Qdj (by decide) h9),Qac,Qlk,Rs.bind,Qdq]
   ·simp only[h9,decide_false,Bool.false_eq_true,if_false];have ha:=Qal1 hL (s,pos L l1,false) hE hS t2 n2 h9;cases hy:Qlk E l1.tail with
    | ok xs l4 =>
     rw[hy] at ha;obtain⟨l3,t3,k9,rfl,ha⟩:=ha;simp only[ha,Qac,Qlm hL t3 9 (by decide),k9,decide_true,Qdf hL t3 (Qdj (by decide) k9),Qdq]
    | bad l' =>
     rw[hy] at ha;obtain⟨t3,b,ys,ha,hb⟩:=ha;have e:Qap 9 L (pos L l') b=some false:=by
      rw[rrIs hL t3 9 (by decide)];rcases hb with rfl | hb
      ·rfl
      ·simp[hb]
     simp only[ha,Qac,e,Qgt hL t3,Qdq];exact⟨_,rfl⟩
  ·simp[h8,Qdq]
theorem Qajh:∀ (f:Nat),RE L f (Qll f)
 | 0=>fun l h hn=>absurd hn (by omega)
 | f+1=>fun l h hn=>by
  rw[Qay,Qll];have hf:=Qaku hL (Qajh f) (Qks f) h (by omega);have s1:=Qwo (Qks f) l;cases hx:Qd9 (Qll f) l with
  | bad l1 =>
   rw[hx] at s1 hf;obtain⟨x,hf⟩:=hf;have t1:l1 <:+ L:=List.IsSuffix.trans s1 h;simp only[hf,Qac,Rs.bind,Qdq,Q98 hL x t1];exact⟨_,rfl⟩
  | ok x l1 =>
   rw[hx] at s1 hf;have hf:Qdn L (pos L l) false=some (x,pos L l1,false):=hf;simp only[hf,Qac,Rs.bind];exact Qalz hL l1.length x l1 (s1.1.trans h) (Nat.le_refl _)
theorem rrEx{l:List Qaa}(h:l <:+ L):Qdq L (Qay L (pos L l) false) (ex20 l):=Qajh hL (l.length+1) l h (by omega)
end
def tsum(l:List Qaa):Nat:=(l.map (·.Text.length)).sum
theorem Qaf4(t:Qaa)(r:List Qaa):tsum (t::r)=t.Text.length+tsum r:=by simp[tsum]
theorem Qvr(l:List Qaa):(hd l).Text.length+tsum l.tail=tsum l:=by cases l<;>simp[tsum,hd]
theorem Qvs{l L:List Qaa}(h:l <:+ L):tsum l≤tsum L:=by
 obtain⟨p,rfl⟩:=h;simp[tsum]
def Qnv(out:List Qab):Nat:=match out.getLast? with
 | some x=>if x.Kind=8 then x.Text.length else 0
 | none=>0
structure BD (out:List Qab) (l:List Qaa):Prop where
 len:out.length+l.length≤400000
 txt:Qnv out+tsum l≤400000
theorem Qadi(out:List Qab)(s:List UInt8):(Qjm out s).length≤out.length+1:=by
 unfold Qjm;split
 ·split<;>simp
 ·simp
theorem Q0g(out:List Qab)(s:List UInt8):Qnv (Qjm out s)≤Qnv out+s.length:=by
 unfold Qjm;cases hx:out.getLast? with
 | none=>simp[Qnv]
 | some x =>
  have hne:out≠[]:=fun e=>by subst e; simp at hx
  simp only;split
  ·rename_i h8;have hl:Qnv out=x.Text.length:=by simp[Qnv,hx,h8]
   have:(out.set (out.length-1) ⟨x.Kind,x.Name,x.Text++s,x.N,x.L,x.Then,x.Else⟩).getLast? = some ⟨x.Kind,x.Name,x.Text++s,x.N,x.L,x.Then,x.Else⟩:=by
    have h0:0<out.length:=List.length_pos_iff.2 hne;rw[List.getLast?_eq_getElem?];simp[List.getElem?_set];omega
   rw[Qnv,this];simp[h8,hl]
  ·simp[Qnv]
theorem BD.lit{out:List Qab}{l:List Qaa}(h:BD out l)(hne:l≠[]):BD (Qjm out (hd l).Text) l.tail:=by
 have h1:=Qadi out (hd l).Text;have h2:=Q0g out (hd l).Text;have h3:=Qvr l;have h4:=Qcl hne;exact⟨by have:=h.len; omega,by have:=h.txt; omega⟩
theorem BD.app{out:List Qab}{l l' : List Qaa}(h:BD out l){x:Qab}(hx:x.Kind≠8)(hs:l' <:+ l)(hl:l'.length<l.length):BD (out++[x]) l' := by
 have h1:=Qvs hs;refine⟨by have:=h.len; simp; omega,?_⟩;have:Qnv (out++[x])=0:=by simp[Qnv,hx]
 have:=h.txt;omega
theorem BD.suf{out:List Qab}{l l' : List Qaa}(h:BD out l)(hs:l' <:+ l):BD out l' := by
 have h1:=Qvs hs;have h2:=hs.length_le;exact⟨by have:=h.len; omega,by have:=h.txt; omega⟩
theorem BD.nil{L l:List Qaa}(hL:Toks L)(h:l <:+ L):BD [] l:=by
 have h1:=Qvs h;have h2:=h.length_le;have h3:=hL.len;have h4:=hL.sum;refine⟨by simp; omega,?_⟩;have:tsum L≤200000:=h4;simp only[Qnv,List.getLast?_nil];omega
theorem litO{R:Type}(v:List Qab)(s:List UInt8)(K:List Qab→Option R)(h1:v.length≤400000)(h2:Qnv v+s.length≤400000) :
  (( if(decide ((wr ((v.length:Int)-1)) ≥ 0)) then
     idx v (wr ((v.length:Int)-1))>>=fun x11 =>
     some (x11.Kind==8)
    else
     some false:Option (Bool))>>=fun o10 =>
   if o10 then
    idx v (wr ((v.length:Int)-1))>>=fun x12 =>
    need (x12.Text.length+s.length≤9223372036854775807)>>=fun _ =>
    idx v (wr ((v.length:Int)-1))>>=fun x13 =>
    K (v.set ((wr ((v.length:Int)-1)).toNat) (Qab.mk x13.Kind x13.Name (x12.Text++s) x13.N x13.L x13.Then x13.Else))
   else
    appL 120 v ([(Qab.mk 8 [] s 0 [] [] [])])>>=fun x14 =>
    K x14)=K (Qjm v s):=by
 have ea:appL 120 v ([(Qab.mk 8 [] s 0 [] [] [])])=some (v++[(Qab.mk 8 [] s 0 [] [] [])]):=Qin (by simp; omega) (by simp; omega);unfold Qjm;cases hx:v.getLast? with
 | none =>
  have:v=[]:=by simpa using hx
  subst this;have e:decide ((wr ((([]:List Qab).length:Int)-1)) ≥ 0)=false:=by decide
  simp only[e,Bool.false_eq_true,if_false,Qac,ea]
 | some x =>
  have hne:v≠[]:=fun e=>by subst e; simp at hx
  have h0:0<v.length:=List.length_pos_iff.2 hne;have ew:wr ((v.length:Int)-1)=((v.length-1:Nat):Int):=by rw[Qd0 (by omega) (by omega)]; omega
  have ei:idx v (wr ((v.length:Int)-1))=some x:=by
   rw[ew,Qbr,← List.getLast?_eq_getElem?,hx]
  have e:decide ((wr ((v.length:Int)-1)) ≥ 0)=true:=by rw[ew]; simp
  simp only[e,if_true,ei,Qac];by_cases h8:x.Kind=8
  ·have hl:Qnv v=x.Text.length:=by simp[Qnv,hx,h8]
   have e8:(x.Kind==8)=true:=by simpa using h8
   simp only[e8,if_true,if_pos h8,Qac,Qa2 (show x.Text.length+s.length≤9223372036854775807 by omega),ew,Int.toNat_natCast]
  ·have e8:(x.Kind==8)=false:=by simpa using h8
   simp only[e8,Bool.false_eq_true,if_false,if_neg h8,ea,Qac]
theorem Q75{B:Bool→Bool→List Qaa→Rs (List Qab)}{l:List Qaa}{x:Qab}{l' : List Qaa}(h:actR B l = .ok x l'):x.Kind≠8:=by
 have hb:∀ {α β : Type} {r:Rs α} {f : α → List Qaa→Rs β} {y : β} {l' : List Qaa},r.bind f = .ok y l' → ∃ a l1,r = .ok a l1∧f a l1 = .ok y l' := fun {α β r f y l'} h=>by
  cases r with
  | ok a l1=>exact⟨a,l1,rfl,h⟩
  | bad l1=>cases h
 unfold actR at h;split at h
 ·obtain⟨a,l1,-,h⟩:=hb h;obtain⟨b,l2,-,h⟩:=hb h;split at h
  ·obtain⟨c,l3,-,h⟩:=hb h;obtain⟨d,l4,-,h⟩:=hb h;obtain⟨e,l5,-,h⟩:=hb h;cases h; simp
  ·obtain⟨e,l5,-,h⟩:=hb h;cases h; simp
 split at h
 ·obtain⟨a,l1,-,h⟩:=hb h;obtain⟨b,l2,-,h⟩:=hb h;obtain⟨c,l3,-,h⟩:=hb h;obtain⟨d,l4,-,h⟩:=hb h;obtain⟨e,l5,-,h⟩:=hb h;cases h; simp
 split at h
 ·obtain⟨a,l1,-,h⟩:=hb h;obtain⟨b,l2,-,h⟩:=hb h;obtain⟨c,l3,-,h⟩:=hb h;obtain⟨d,l4,-,h⟩:=hb h;obtain⟨e,l5,-,h⟩:=hb h;cases h; simp
 split at h
 ·obtain⟨a,l1,-,h⟩:=hb h;obtain⟨b,l2,-,h⟩:=hb h;cases h; simp
 ·obtain⟨a,l1,-,h⟩:=hb h;cases h; simp
def Suf0{α : Type}(l:List Qaa):Rs α → Prop
 | .ok _ l' => l' <:+ l
 | .bad l' => l' <:+ l
theorem Suf.suf0{α : Type}{l:List Qaa}{r:Rs α}(h:Suf l r):Suf0 l r:=by
 cases r with
 | ok x l' => exact h.1
 | bad l' => exact h
theorem Suf0.mono{α : Type}{l l' : List Qaa}{r:Rs α}(h:Suf0 l' r)(hs:l' <:+ l):Suf0 l r:=by
 cases r with
 | ok x l2=>exact List.IsSuffix.trans h hs
 | bad l2=>exact List.IsSuffix.trans h hs
theorem Suf.bind0{α β : Type}{l:List Qaa}{r:Rs α}{f : α → List Qaa→Rs β}(h:Suf l r)(hf:∀ x l', Suf0 l' (f x l')):Suf l (r.bind f):=by
 cases r with
 | ok x l' =>
  have:=hf x l';show Suf l (f x l');cases hx:f x l' with
  | ok y l2=>rw[hx] at this; exact⟨List.IsSuffix.trans this h.1,by have:=List.IsSuffix.length_le this; have:=h.2; omega⟩
  | bad l2=>rw[hx] at this; exact List.IsSuffix.trans this h.1
 | bad l' => exact h
theorem Suf0.bind{α β : Type}{l:List Qaa}{r:Rs α}{f : α → List Qaa→Rs β}(h:Suf0 l r)(hf:∀ x l', Suf0 l' (f x l')):Suf0 l (r.bind f):=by
 cases r with
 | ok x l' => exact(hf x l').mono h
 | bad l' => exact h
theorem Suf0.ret{α : Type}(x : α)(l:List Qaa):Suf0 l (.ok x l):=List.suffix_refl l
theorem Q47{B:Bool→Bool→List Qaa→Rs (List Qab)}(hB:∀ i o l,Suf0 l (B i o l))(l:List Qaa):Suf l (actR B l):=by
 have e0:=fun w l=>(Q45 w l).suf0
 unfold actR;split
 ·refine Qkb (Suf.bind0 (Qef _) fun x l1=>Suf0.bind (hB _ _ _) fun y l2=>?_);split
  ·exact Suf0.bind (e0 _ _) fun _ l3=>Suf0.bind (hB _ _ _) fun _ l4=>Suf0.bind (e0 _ _) fun _ _ =>.ret _ _
  ·exact Suf0.bind (e0 _ _) fun _ _ =>.ret _ _
 split
 ·exact Qkb (Suf.bind0 (Qfn _) fun _ _=>Suf0.bind (Qvq _ _).suf0 fun _ _=>Suf0.bind (Qef _).suf0 fun _ _=>Suf0.bind (hB _ _ _) fun _ _=>Suf0.bind (e0 _ _) fun _ _ =>.ret _ _)
 split
 ·exact Qkb (Suf.bind0 (Qfn _) fun _ _=>Suf0.bind (Qhf (by decide) _).suf0 fun _ _=>Suf0.bind (Qef _).suf0 fun _ _=>Suf0.bind (hB _ _ _) fun _ _=>Suf0.bind (e0 _ _) fun _ _ =>.ret _ _)
 split
 ·exact Qkb (Suf.bind0 (Qfn _) fun _ _=>Suf0.bind (Qef _).suf0 fun _ _ =>.ret _ _)
 ·exact Suf.bind0 (Qef _) fun _ _ =>.ret _ _
theorem Qg5:∀ (f:Nat) (i o:Bool) (out:List Qab) (l:List Qaa),Suf0 l (Qd3 f i o out l)
 | 0,_,_,_,l=>List.suffix_refl l
 | f+1,i,o,out,l=>by
  unfold Qd3;split
  ·exact .ret _ _
  split
  ·exact(Qg5 f _ _ _ _).mono (List.tail_suffix l)
  split
  ·exact .ret _ _
  split
  ·split
   ·exact(Qg5 f _ _ _ _).mono ((List.tail_suffix _).trans (List.tail_suffix l))
   ·exact Suf0.bind ((Q47 (fun i o l=>Qg5 f i o [] l) _).suf0.mono (List.tail_suffix l)) fun _ _=>Qg5 f _ _ _ _
  ·exact List.suffix_refl l
def Qadj(i o:Bool):Rs (List Qab)→Prop
 | .ok _ l=>l=[]∨(i&&Qde wEnd l)=true∨(o&&Qde Qes l)=true
 | .bad _=>True
theorem Qj5:∀ (f:Nat) (i o:Bool) (out:List Qab) (l:List Qaa),Qadj i o (Qd3 f i o out l)
 | 0,_,_,_,l=>trivial
 | f+1,i,o,out,l=>by
  unfold Qd3;split
  ·rename_i h; exact .inl h
  split
  ·exact Qj5 f _ _ _ _
  split
  ·rename_i h;simp only[Bool.or_eq_true] at h;exact .inr h
  split
  ·split
   ·exact Qj5 f _ _ _ _
   ·cases actR (fun i o l=>Qd3 f i o [] l) l.tail with
    | ok x l2=>exact Qj5 f _ _ _ _
    | bad l2=>trivial
  ·trivial
theorem Qrp{w:List UInt8}{l:List Qaa}(h:Qde w l=true):kd l=2∧isW w l.tail=true:=by
 simp only[Qde,Bool.and_eq_true,beq_iff_eq] at h;exact h
theorem Qaab{w v:List UInt8}{l:List Qaa}(h:isW w l=true)(hv:isW v l=true):w=v:=by
 simp only[isW,Bool.and_eq_true,beq_iff_eq] at h hv;exact h.2.symm.trans hv.2
theorem Q2i{w:List UInt8}{l:List Qaa}(h:Qde w l=true):endW w l=(want 3 l.tail.tail).bind fun _ l3 =>.ok () l3:=by
 obtain⟨h1,h2⟩:=Qrp h;simp only[endW,want,if_pos h1,Rs.bind,Qo9,if_pos h2]
theorem Qaip(w:List UInt8):endW w [] = .bad []:=by simp[endW,want,Rs.bind]
def cBlk(i:Bool)(L:List Qaa):Rs (List Qab)→((List Qab)×Int×Int)⊕Int
 | .bad l' =>.inr (pos L l')
 | .ok out l' => if l' = [] then(if i=true then .inr (pos L []) else .inl (out,2,pos L [])) else match want 3 l'.tail.tail with
  | .ok _ l2 =>.inl (out,(if(i&&Qde wEnd l')=true then 0 else 1),pos L l2)
  | .bad l2 =>.inr (pos L l2)
theorem Q76{L:List Qaa}{o:Bool}{y:List Qab}{l2:List Qaa}(h:Qadj true o (.ok y l2)):cBlk true L (.ok y l2) =
  if Qde Qes l2=true then(match endW Qes l2 with | .ok _ l3 =>.inl (y,1,pos L l3) | .bad l3 =>.inr (pos L l3)) else(match endW wEnd l2 with | .ok _ l3 =>.inl (y,0,pos L l3) | .bad l3 =>.inr (pos L l3)):=by
 simp only[cBlk];by_cases hn:l2=[]
 ·subst hn;have:Qde Qes []=false:=rfl;simp[this,Qaip]
 ·rw[if_neg hn];by_cases he:Qde Qes l2=true
  ·have hnd:Qde wEnd l2=false:=by
    cases hh:Qde wEnd l2 with
    | false=>rfl
    | true=>exact absurd (Qaab (Qrp he).2 (Qrp hh).2) (by decide)
   rw[if_pos he,Q2i he];simp only[hnd,Bool.and_false,Bool.false_eq_true,if_false];cases want 3 l2.tail.tail<;>rfl
  ·have hd:Qde wEnd l2=true:=by
    rcases h with h | h | h
    ·exact absurd h hn
    ·simpa using h
    ·simp only[Bool.and_eq_true] at h; exact absurd h.2 he
   rw[if_neg he,Q2i hd];simp only[hd,Bool.and_true,if_true];cases want 3 l2.tail.tail<;>rfl
theorem Qabr{L:List Qaa}{y:List Qab}{l2:List Qaa}(h:Qadj true false (.ok y l2)):cBlk true L (.ok y l2)=match endW wEnd l2 with | .ok _ l3 =>.inl (y,0,pos L l3) | .bad l3 =>.inr (pos L l3):=by
 rw[Q76 h];have:¬ Qde Qes l2=true:=fun he=>by
  rcases h with h | h | h
  ·subst h; simp[Qde] at he
  ·simp only[Bool.and_eq_true] at h;exact absurd (Qaab (Qrp he).2 (Qrp h.2).2) (by decide)
  ·simp at h
 rw[if_neg this]
def cB(i:Bool)(L:List Qaa):Rs (List Qab)→((List Qab)×Int)⊕((List Qab)×Int×Int)⊕Int
 | .bad l' =>.inr (.inr (pos L l'))
 | .ok out l' => if l' = [] then .inl (out,pos L []) else match want 3 l'.tail.tail with
  | .ok _ l2 =>.inr (.inl (out,(if(i&&Qde wEnd l')=true then 0 else 1),pos L l2))
  | .bad l2 =>.inr (.inr (pos L l2))
section
variable {L:List Qaa} (hL:Toks L)
include hL
def PB(L:List Qaa)(n:Nat)(B:Bool→Bool→List Qaa→Rs (List Qab)):Prop:=∀ i o l,l <:+ L→l.length<n→Qa6 i o L (pos L l)=some (cBlk i L (B i o l))
theorem Qanb{n:Nat}{B:Bool→Bool→List Qaa→Rs (List Qab)}(hB:PB L n B)(hS:∀ i o l,Suf0 l (B i o l))(hT:∀ i o l,Qadj i o (B i o l)){l:List Qaa}(h:l <:+ L)(hn:l.length≤n):Qgs L (pos L l)=some (cP L (actR B l)):=by
 rw[Qgs,Qxv hL h,Qac];unfold actR;have hblk:∀ (k:Int) (s:List UInt8) (x:Qab) (l3:List Qaa),l3 <:+ L→l3.length<n→(Qa6 true false L (pos L l3)>>=fun o23 =>
      match o23 with
      | .inl x22 =>
       some (.inl ((Qab.mk k s [] 0 [x] x22.1 []),x22.2.2))
      | .inr z24 =>
       some (.inr z24):Option ((Qab×Int)⊕Int))=some (cP L ((B true false l3).bind fun y l4=>(endW wEnd l4).bind fun _ l5 =>.ok ⟨k,s,[],0,[x],y,[]⟩ l5)):=fun k s x l3 t3 n3=>by
  rw[hB true false l3 t3 n3,Qac];have st:=hT true false l3;cases hb:B true false l3 with
  | bad l4=>simp[cBlk,Rs.bind,cP]
  | ok y l4 =>
   rw[hb] at st;rw[Qabr st];simp only[Rs.bind];cases endW wEnd l4 with
   | ok u l5=>simp[cP]
   | bad l5=>simp[cP]
 by_cases w1:isW wIf l=true
 ·have t1:=Qbg h;have n1:=Qcl (Qea w1);simp only[if_pos w1,if_true,Q0d hL t1,Qac];have s1:=Qef l.tail;cases hc:Qdi l.tail with
  | bad l1=>simp[Rs.bind,cP]
  | ok x l1 =>
   rw[hc] at s1;have t2:l1 <:+ L:=s1.1.trans t1;have n2:l1.length<n:=by have:=s1.2; omega
   simp only[Rs.bind,hB true true l1 t2 n2,Qac];have st:=hT true true l1;have s2:=hS true true l1;cases hb:B true true l1 with
   | bad l2=>simp[cBlk,cP]
   | ok y l2 =>
    rw[hb] at st s2;rw[Q76 st];simp only;have t3:l2 <:+ L:=List.IsSuffix.trans s2 t2;by_cases he:Qde Qes l2=true
    ·rw[if_pos he,if_pos he];have s3:=Q45 Qes l2;cases hz:endW Qes l2 with
     | bad l3=>simp[cP]
     | ok u l3 =>
      rw[hz] at s3;have t4:l3 <:+ L:=s3.1.trans t3;have n4:l3.length<n:=by have:=s3.2; have:=List.IsSuffix.length_le s2; omega
      simp only[beq_self_eq_true,if_true,hB true false l3 t4 n4,Qac];have st2:=hT true false l3;cases hb2:B true false l3 with
      | bad l4=>simp[cBlk,cP]
      | ok z l4 =>
       rw[hb2] at st2;rw[Qabr st2];simp only;cases endW wEnd l4 with
       | ok u l5=>simp[cP]
       | bad l5=>simp[cP]
    ·rw[if_neg he,if_neg he];cases hz:endW wEnd l2 with
     | bad l3=>simp[cP]
     | ok u l3 =>
      have e01:((0:Int)==1)=false:=rfl;simp only[e01,Bool.false_eq_true,if_false,cP]
 simp only[if_neg w1,Bool.false_eq_true,if_false,Qxv hL h,Qac];by_cases w2:isW Qxu l=true
 ·have t1:=Qbg h;have n1:=Qcl (Qea w2);simp only[if_pos w2,if_true,Qaim hL t1,Qac];have s1:=Qfn l.tail;cases hc:Qg4 l.tail with
  | bad l1 =>
   have:l1=l.tail:=by unfold Qg4 at hc; split at hc<;>cases hc; rfl
   subst this;simp[Rs.bind,cP]
  | ok s l1 =>
   rw[hc] at s1;have t2:l1 <:+ L:=s1.1.trans t1;simp only[Rs.bind,Qxv hL t2,Qac,Qa4,Qxq,Qo9];by_cases wi:isW wIn l1=true
   ·have t3:=Qbg t2;have n3:=Qcl (Qea wi);simp only[if_pos wi,if_true,Q0d hL t3,Qac];have s3:=Qef l1.tail;cases hc2:Qdi l1.tail with
    | bad l3=>simp[cP]
    | ok x l3 =>
     rw[hc2] at s3;simp only;exact hblk 11 s x l3 (s3.1.trans t3) (by have:=s3.2; have:=s1.2; omega)
   ·simp[if_neg wi,cP]
 simp only[if_neg w2,Bool.false_eq_true,if_false,Qxv hL h,Qac];by_cases w3:isW wLet l=true
 ·have t1:=Qbg h;have n1:=Qcl (Qea w3);simp only[if_pos w3,if_true,Qaim hL t1,Qac];have s1:=Qfn l.tail;cases hc:Qg4 l.tail with
  | bad l1 =>
   have:l1=l.tail:=by unfold Qg4 at hc; split at hc<;>cases hc; rfl
   subst this;simp[Rs.bind,cP]
  | ok s l1 =>
   rw[hc] at s1;have t2:l1 <:+ L:=s1.1.trans t1;simp only[Rs.bind,Q0b hL t2 11 (by decide),Qac];by_cases wi:kd l1=11
   ·have t3:=Qbg t2;have n3:=Qcl (Qdj (by decide) wi);simp only[if_pos wi,Qh0 hL wi,Q0d hL t3,Qac];have s3:=Qef l1.tail;cases hc2:Qdi l1.tail with
    | bad l3=>simp[cP]
    | ok x l3 =>
     rw[hc2] at s3;simp only;exact hblk 12 s x l3 (s3.1.trans t3) (by have:=s3.2; have:=s1.2; omega)
   ·simp[if_neg wi,Qff hL wi,cP]
 simp only[if_neg w3,Bool.false_eq_true,if_false,Qxv hL h,Qac];by_cases w4:isW wUse l=true
 ·have t1:=Qbg h;simp only[if_pos w4,if_true,Qaim hL t1,Qac];have s1:=Qfn l.tail;cases hc:Qg4 l.tail with
  | bad l1 =>
   have:l1=l.tail:=by unfold Qg4 at hc; split at hc<;>cases hc; rfl
   subst this;simp[Rs.bind,cP]
  | ok s l1 =>
   rw[hc] at s1;have t2:l1 <:+ L:=s1.1.trans t1;simp only[Rs.bind,Q0d hL t2,Qac];cases Qdi l1 with
   | bad l3=>simp[cP]
   | ok x l3=>simp[cP]
 simp only[if_neg w4,Bool.false_eq_true,if_false,Q0d hL h,Qac];cases Qdi l with
 | bad l3=>simp[cP,Rs.bind]
 | ok x l3=>simp[cP,Rs.bind]
theorem Qal2{f:Nat}(hB:PB L f (fun i o l=>Qd3 f i o [] l))(ih:∀ (i o:Bool) (out:List Qab) (l:List Qaa),l <:+ L→l.length<f→BD out l→Qa0 i o L out (pos L l)=some (cB i L (Qd3 f i o out l)))
  (i o:Bool) (out:List Qab) (l:List Qaa) (h:l <:+ L) (hn:l.length<f+1) (hd0:BD out l):Qa0 i o L out (pos L l)=some (cB i L (Qd3 (f+1) i o out l)):=by
 rw[Qa0,Qd3];by_cases hne:l=[]
 ·subst hne;have e:decide (pos L []<(L.length:Int))=false:=by rw[Qun]; simp
  simp[e,cB]
 have e:decide (pos L l<(L.length:Int))=true:=(Qro h hne).2.2;have t1:=Qbg h;have n1:=Qcl hne;simp only[e,if_true,Q96 hL h,Qac,if_neg hne,Q72 hL h 1 (by decide)];by_cases k1:kd l=1
 ·simp only[if_pos k1,if_true];refine(litO out (hd l).Text (fun v=>Qa0 i o L v (pos L l.tail)) (by have:=hd0.len; omega) (by have:=hd0.txt; have:=Qvr l; omega)).trans ?_;exact ih i o _ l.tail t1 (by omega) (hd0.lit hne)
 simp only[if_neg k1,Bool.false_eq_true,if_false,Q0b hL h 2 (by decide),Qac];by_cases k2:kd l=2
 ·have ha:∀ w,Qde w l=isW w l.tail:=fun w=>by simp[Qde,k2]
  simp only[if_pos k2,Q72 hL t1 3 (by decide),Qac,ha];by_cases k3:kd l.tail=3
  ·have hw:∀ w,isW w l.tail=false:=fun w=>by simp[isW,k3]
   have n2:=Qcl (Qdj (by decide) k3);simp only[if_pos k3,if_true,hw,Bool.and_false,Bool.or_self,Bool.false_eq_true,if_false];exact ih i o out l.tail.tail (Qbg t1) (by omega) (hd0.suf ((List.tail_suffix _).trans (List.tail_suffix l)))
  ·simp only[if_neg k3,Bool.false_eq_true,if_false];have t2:=Qbg t1;by_cases c1:(i&&isW wEnd l.tail)=true
   ·simp only[Bool.and_eq_true] at c1;obtain⟨ci,cw⟩:=c1;subst ci;have cw' : isW [101,110,100] l.tail=true:=cw;simp only[if_true,Qxv hL t1,cw', Qac,Q0b hL t2 3 (by decide),Bool.true_and,cw,Bool.true_or];simp only[cB,if_neg hne,ha,Bool.true_and,cw,if_true];by_cases k4:kd l.tail.tail=3
    ·simp only[if_pos k4,Qh0 hL k4]
    ·simp only[if_neg k4,Qff hL k4]
   have e19:(( if i then
       Qaz [101,110,100] L (pos L l.tail)>>=fun x20 =>
       some (x20.1,x20.2)
      else
       some (false,(pos L l.tail)):Option ((Bool×Int))))=some (false,pos L l.tail):=by
    cases i with
    | false=>rfl
    | true =>
     have cw:¬ isW [101,110,100] l.tail=true:=by simpa using c1
     simp only[if_true,Qxv hL t1,Qac,if_neg cw]
   simp only[e19,Qac,Bool.false_eq_true,if_false];have c1' : (i&&isW wEnd l.tail)=false:=by simpa using c1
   rw[c1', Bool.false_or];by_cases c2:(o&&isW Qes l.tail)=true
   ·simp only[Bool.and_eq_true] at c2;obtain⟨co,cw⟩:=c2;subst co;have cw' : isW [101,108,115,101] l.tail=true:=cw;simp only[if_true,Qxv hL t1,cw', Qac,Q0b hL t2 3 (by decide),Bool.true_and,cw];simp only[cB,if_neg hne,ha,c1', Bool.false_eq_true,if_false];by_cases k4:kd l.tail.tail=3
    ·simp only[if_pos k4,Qh0 hL k4]
    ·simp only[if_neg k4,Qff hL k4]
   have e24:(( if o then
       Qaz [101,108,115,101] L (pos L l.tail)>>=fun x25 =>
       some (x25.1,x25.2)
      else
       some (false,(pos L l.tail)):Option ((Bool×Int))))=some (false,pos L l.tail):=by
    cases o with
    | false=>rfl
    | true =>
     have cw:¬ isW [101,108,115,101] l.tail=true:=by simpa using c2
     simp only[if_true,Qxv hL t1,Qac,if_neg cw]
   simp only[e24,Qac,Bool.false_eq_true,if_false,if_neg c2];rw[Qanb hL hB (fun i o l=>Qg5 f i o [] l) (fun i o l=>Qj5 f i o [] l) t1 (by omega),Qac];have s1:=Q47 (fun i o l=>Qg5 f i o [] l) l.tail;cases hx:actR (fun i o l=>Qd3 f i o [] l) l.tail with
   | bad l2=>simp only[cP,Rs.bind,cB]
   | ok x l2 =>
    rw[hx] at s1;have s2:l2 <:+ l:=s1.1.trans (List.tail_suffix l);simp only[cP,Rs.bind,Qin (show(out.length+[x].length)*120≤140737488355328 by have:=hd0.len; simp; omega) (by have:=hd0.len; simp; omega),Qac];exact ih i o (out++[x]) l2 (s2.trans h) (by have:=s1.2; omega) (hd0.app (Q75 hx) s2 (by have:=s1.2; omega))
 ·have ha:∀ w,Qde w l=false:=fun w=>by simp[Qde,k2]
  simp only[if_neg k2,ha,Bool.and_false,Bool.or_self,Bool.false_eq_true,if_false,cB]
theorem Qaf5{f:Nat}(hl:∀ (i o:Bool) (out:List Qab) (l:List Qaa),l <:+ L→l.length<f→BD out l→Qa0 i o L out (pos L l)=some (cB i L (Qd3 f i o out l))):PB L f (fun i o l=>Qd3 f i o [] l):=fun i o l h hn=>by
 show Qa6 i o L (pos L l)=some (cBlk i L (Qd3 f i o [] l));rw[Qa6,Qfa,hl i o [] l h hn (.nil hL h),Qac];cases hx:Qd3 f i o [] l with
 | bad l' => simp only[cB,Qac,cBlk]
 | ok out l' =>
  simp only[cB,cBlk];by_cases hne:l' = []
  ·subst hne;simp only[if_true];cases i with
   | false=>simp[Qa4,Qxq]
   | true=>simp[Qa4,Qxq]
  ·simp only[if_neg hne];cases want 3 l'.tail.tail with
   | ok u l2=>simp only[Qac]
   | bad l2=>simp only[Qac]
theorem Qakv:∀ (f:Nat) (i o:Bool) (out:List Qab) (l:List Qaa),l <:+ L→l.length<f→BD out l→Qa0 i o L out (pos L l)=some (cB i L (Qd3 f i o out l))
 | 0=>fun i o out l h hn _=>absurd hn (by omega)
 | f+1=>fun i o out l h hn hd=>Qal2 hL (Qaf5 hL (Qakv f)) (Qakv f) i o out l h hn hd
theorem pBlk(i o:Bool){l:List Qaa}(h:l <:+ L):Qa6 i o L (pos L l)=some (cBlk i L (bl20 i o l)) :=
 Qaf5 hL (Qakv hL (l.length+1)) i o l h (by omega)
end
section
variable {L:List Qaa} (hL:Toks L)
include hL
theorem Qaac(i o:Bool)(v:List Qab)(p:Int):Qa9 i o L v p true=some (.inl (v,p,true)):=by
 have _:=hL; rw[Qa9]; rfl
theorem Qabs(i o:Bool)(p:Int):Qav i o L p true=some ([],p,true):=by
 rw[Qav,Qaac hL]; rfl
theorem Qal3{l:List Qaa}(h:l <:+ L):∃ x,Qdb L (pos L l) true=some (x,pos L l,true):=by
 rw[Qdb];simp only[Qpb hL h,Qac,Bool.not_true,Bool.false_and,Bool.false_eq_true,if_false,Q99 hL h,Qpc hL h];exact⟨_,rfl⟩
theorem Q48{l:List Qaa}(h:l <:+ L):match Qdi l with
  | .ok x l2=>∃ l1,Qay L (pos L l) false=some (x,pos L l1,false)∧Qa8 L (pos L l1) false=some (pos L l2,false)
  | .bad l2=>∃ x q b,Qay L (pos L l) false=some (x,q,b)∧Qa8 L q b=some (pos L l2,true):=by
 have he:=rrEx hL h;unfold Qdi;have s1:=Qks (l.length+1) l;cases hx:ex20 l with
 | bad l1 =>
  rw[hx] at he;unfold ex20 at hx;rw[hx] at s1;obtain⟨x,he⟩:=he;exact⟨x,_,_,he,Qpc hL (List.IsSuffix.trans s1 h)⟩
 | ok x l1 =>
  rw[hx] at he;unfold ex20 at hx;rw[hx] at s1;have he:Qay L (pos L l) false=some (x,pos L l1,false):=he;have hc:=Qabp hL (s1.1.trans h);simp only[Rs.bind];cases hw:want 3 l1 with
  | ok t l2=>rw[hw] at hc; exact⟨l1,he,hc⟩
  | bad l2=>rw[hw] at hc; exact⟨x,_,_,he,hc⟩
def RB(L:List Qaa)(n:Nat)(B:Bool→Bool→List Qaa→Rs (List Qab)):Prop:=∀ i o l,l <:+ L→l.length<n→Qdq L (Qav i o L (pos L l) false) (B i o l)
theorem Qanc{n:Nat}{B:Bool→Bool→List Qaa→Rs (List Qab)}(hB:RB L n B)(hS:∀ i o l,Suf0 l (B i o l)){l:List Qaa}(h:l <:+ L)(hn:l.length≤n):Qdq L (Qdb L (pos L l) false) (actR B l):=by
 rw[Qdb];simp only[Qpb hL h,Qac,Bool.not_false,Bool.true_and];unfold actR;by_cases w1:isW wIf l=true
 ·have t1:=Qbg h;have n1:=Qcl (Qea w1);rw[if_pos w1,if_pos w1,Qdf hL h (Qea w1),Qac];have hc:=Q48 hL t1;have s1:=Qef l.tail;cases hx:Qdi l.tail with
  | bad l2 =>
   rw[hx] at hc s1;have t2:l2 <:+ L:=List.IsSuffix.trans s1 t1;obtain⟨x,q,b,e1,e2⟩:=hc;simp only[e1,Qac,e2,Qabs hL,Qyc hL t2,Bool.not_true,Bool.false_and,Bool.false_eq_true,if_false,Q0e hL t2,Rs.bind,Qdq];exact⟨_,rfl⟩
  | ok x l2 =>
   rw[hx] at hc s1;obtain⟨l1,e1,e2⟩:=hc;have t2:l2 <:+ L:=s1.1.trans t1;have n2:l2.length<n:=by have:=s1.2; omega
   have hb:=hB true true l2 t2 n2;have s2:=hS true true l2;simp only[e1,Qac,e2,Rs.bind];cases hy:B true true l2 with
   | bad l3 =>
    rw[hy] at hb s2;obtain⟨y,hb⟩:=hb;have t3:l3 <:+ L:=List.IsSuffix.trans s2 t2;simp only[hb,Qac,Qyc hL t3,Bool.not_true,Bool.false_and,Bool.false_eq_true,if_false,Q0e hL t3,Qdq];exact⟨_,rfl⟩
   | ok y l3 =>
    rw[hy] at hb s2;have hb:Qav true true L (pos L l2) false=some (y,pos L l3,false):=hb;have t3:l3 <:+ L:=List.IsSuffix.trans s2 t2;simp only[hb,Qac,Qyc hL t3,Bool.not_false,Bool.true_and];by_cases ha:Qde Qes l3=true
    ·have ha' : Qde [101,108,115,101] l3=true:=ha;simp only[ha,ha', if_true,Qabq hL t3];have s3:=Q45 Qes l3;cases hz:endW Qes l3 with
     | bad l4 =>
      rw[hz] at s3;have t4:l4 <:+ L:=List.IsSuffix.trans s3 t3;have hz' : endW [101,108,115,101] l3 = .bad l4:=hz;simp only[hz', Qac,Qabs hL,Q0e hL t4,Qdq];exact⟨_,rfl⟩
     | ok u l4 =>
      rw[hz] at s3;have t4:l4 <:+ L:=s3.1.trans t3;have n4:l4.length<n:=by have:=s3.2; have:=List.IsSuffix.length_le s2; omega
      have hz' : endW [101,108,115,101] l3 = .ok u l4:=hz;have hb2:=hB true false l4 t4 n4;have s4:=hS true false l4;simp only[hz', Qac];cases hq:B true false l4 with
      | bad l5 =>
       rw[hq] at hb2 s4;obtain⟨z,hb2⟩:=hb2;simp only[hb2,Qac,Q0e hL (List.IsSuffix.trans s4 t4),Qdq];exact⟨_,rfl⟩
      | ok z l5 =>
       rw[hq] at hb2 s4;have hb2:Qav true false L (pos L l4) false=some (z,pos L l5,false):=hb2;simp only[hb2,Qac,Qabq hL (List.IsSuffix.trans s4 t4)];cases he:endW wEnd l5 with
       | bad l6 =>
        have he' : endW [101,110,100] l5 = .bad l6:=he;simp only[he', Qdq];exact⟨_,rfl⟩
       | ok u l6 =>
        have he' : endW [101,110,100] l5 = .ok u l6:=he;simp only[he', Qdq]
    ·have ha' : ¬ Qde [101,108,115,101] l3=true:=ha;simp only[ha,ha', Bool.false_eq_true,if_false,Qac,Qabq hL t3];cases he:endW wEnd l3 with
     | bad l6 =>
      have he' : endW [101,110,100] l3 = .bad l6:=he;simp only[he', Qdq];exact⟨_,rfl⟩
     | ok u l6 =>
      have he' : endW [101,110,100] l3 = .ok u l6:=he;simp only[he', Qdq]
 rw[if_neg w1,if_neg w1];have hblk:∀ (k:Int) (s:List UInt8) (l2:List Qaa),l2 <:+ L→l2.length<n→Qdq L (Qay L (pos L l2) false>>=fun x23 =>
   Qa8 L x23.2.1 x23.2.2>>=fun x24 =>
   Qav true false L x24.1 x24.2>>=fun x25 =>
   Qck [101,110,100] L x25.2.1 x25.2.2>>=fun x26 =>
   some ((Qab.mk k s [] 0 [x23.1] x25.1 []),x26.1,x26.2)) ((Qdi l2).bind fun x l3=>(B true false l3).bind fun y l4=>(endW wEnd l4).bind fun _ l5 =>.ok ⟨k,s,[],0,[x],y,[]⟩ l5):=fun k s l2 t2 n2=>by
  have hc:=Q48 hL t2;have s1:=Qef l2;cases hx:Qdi l2 with
  | bad l3 =>
   rw[hx] at hc s1;have t3:l3 <:+ L:=List.IsSuffix.trans s1 t2;obtain⟨x,q,b,e1,e2⟩:=hc;simp only[e1,Qac,e2,Qabs hL,Q0e hL t3,Rs.bind,Qdq];exact⟨_,rfl⟩
  | ok x l3 =>
   rw[hx] at hc s1;obtain⟨l1,e1,e2⟩:=hc;have t3:l3 <:+ L:=s1.1.trans t2;have hb:=hB true false l3 t3 (by have:=s1.2; omega);have s2:=hS true false l3;simp only[e1,Qac,e2,Rs.bind];cases hy:B true false l3 with
   | bad l4 =>
    rw[hy] at hb s2;obtain⟨y,hb⟩:=hb;simp only[hb,Qac,Q0e hL (List.IsSuffix.trans s2 t3),Qdq];exact⟨_,rfl⟩
   | ok y l4 =>
    rw[hy] at hb s2;have hb:Qav true false L (pos L l3) false=some (y,pos L l4,false):=hb;simp only[hb,Qac,Qabq hL (List.IsSuffix.trans s2 t3)];cases he:endW wEnd l4 with
    | bad l6 =>
     have he' : endW [101,110,100] l4 = .bad l6:=he;simp only[he', Qdq];exact⟨_,rfl⟩
    | ok u l6 =>
     have he' : endW [101,110,100] l4 = .ok u l6:=he;simp only[he', Qdq]
 have hbad:∀ (k:Int) (s:List UInt8) (l2:List Qaa),l2 <:+ L→∃ z,(Qay L (pos L l2) true>>=fun x23 =>
   Qa8 L x23.2.1 x23.2.2>>=fun x24 =>
   Qav true false L x24.1 x24.2>>=fun x25 =>
   Qck [101,110,100] L x25.2.1 x25.2.2>>=fun x26 =>
   some ((Qab.mk k s [] 0 [x23.1] x25.1 []),x26.1,x26.2):Option (Qab×Int×Bool))=some (z,pos L l2,true):=fun k s l2 t2=>by
  simp only[Q99 hL t2,Qac,Qpc hL t2,Qabs hL,Q0e hL t2];exact⟨_,rfl⟩
 by_cases w2:isW Qxu l=true
 ·have w2' : isW [101,97,99,104] l=true:=w2;have wl:isW [108,101,116] l=false:=by
   cases hh:isW [108,101,116] l with
   | false=>rfl
   | true=>exact absurd (Qaab w2 hh) (by decide)
  have t1:=Qbg h;have n1:=Qcl (Qea w2);simp only[w2,w2', wl,if_true,Bool.false_eq_true,if_false,Qac,Qdf hL h (Qea w2),Q46 hL t1];have s1:=Qfn l.tail;cases hc:Qg4 l.tail with
  | bad l1 =>
   rw[hc] at s1;have t2:l1 <:+ L:=List.IsSuffix.trans s1 t1;simp only[Qpb hL t2,Qac,Bool.not_true,Bool.false_and,Qgt hL t2,Rs.bind,Qdq,beq_self_eq_true,if_true];exact hbad 11 [] l1 t2
  | ok s l1 =>
   rw[hc] at s1;have t2:l1 <:+ L:=s1.1.trans t1;simp only[Qpb hL t2,Qac,Bool.not_false,Bool.true_and,Rs.bind,beq_self_eq_true,if_true];have hw:=Qaf3 hL t2 wIn;have s2:=Qvq wIn l1;cases hi:Qo9 wIn l1 with
   | bad l2 =>
    rw[hi] at hw s2;have hw' : Qaj (isW [105,110] l1) L (pos L l1) false=some (Tk0,pos L l2,true):=hw;simp only[hw', Qac,Qdq];exact hbad 11 s l2 (List.IsSuffix.trans s2 t2)
   | ok u l2 =>
    rw[hi] at hw s2;have hw' : Qaj (isW [105,110] l1) L (pos L l1) false=some (hd l1,pos L l2,false):=hw;simp only[hw', Qac];exact hblk 11 s l2 (s2.1.trans t2) (by have:=s2.2; have:=s1.2; omega)
 have w2' : isW [101,97,99,104] l=false:=by simpa using w2
 rw[if_neg w2];by_cases w3:isW wLet l=true
 ·have w3' : isW [108,101,116] l=true:=w3;have t1:=Qbg h;have n1:=Qcl (Qea w3);have e1:((12:Int)==11)=false:=rfl;simp only[w3,w3', w2', if_true,Bool.false_eq_true,if_false,Qac,Qdf hL h (Qea w3),Q46 hL t1,e1];have s1:=Qfn l.tail;cases hc:Qg4 l.tail with
  | bad l1 =>
   rw[hc] at s1;have t2:l1 <:+ L:=List.IsSuffix.trans s1 t1;simp only[Qs5 hL t2 11 (by decide),Qac,Qgt hL t2,Rs.bind,Qdq];exact hbad 12 [] l1 t2
  | ok s l1 =>
   rw[hc] at s1;have t2:l1 <:+ L:=s1.1.trans t1;simp only[Qlm hL t2 11 (by decide),Qac,Rs.bind,Q2h hL t2 11 (by decide)];have s2:=Qhf (k:=11) (by decide) l1;cases hi:want 11 l1 with
   | bad l2 =>
    rw[hi] at s2;simp only[Qdq];exact hbad 12 s l2 (List.IsSuffix.trans s2 t2)
   | ok u l2 =>
    rw[hi] at s2;simp only[];exact hblk 12 s l2 (s2.1.trans t2) (by have:=s2.2; have:=s1.2; omega)
 have w3' : isW [108,101,116] l=false:=by simpa using w3
 rw[if_neg w3];simp only[w2', w3', Bool.false_eq_true,if_false,Qac];have hone:∀ (k:Int) (s:List UInt8) (l2:List Qaa),l2 <:+ L→Qdq L (Qay L (pos L l2) false>>=fun x31 =>
   Qa8 L x31.2.1 x31.2.2>>=fun x32 =>
   some ((Qab.mk k s [] 0 [x31.1] [] []),x32.1,x32.2)) ((Qdi l2).bind fun x l3 =>.ok ⟨k,s,[],0,[x],[],[]⟩ l3):=fun k s l2 t2=>by
  have hc:=Q48 hL t2;cases hx:Qdi l2 with
  | bad l3 =>
   rw[hx] at hc;obtain⟨x,q,b,e1,e2⟩:=hc;simp only[e1,Qac,e2,Rs.bind,Qdq];exact⟨_,rfl⟩
  | ok x l3 =>
   rw[hx] at hc;obtain⟨l1,e1,e2⟩:=hc;simp only[e1,Qac,e2,Rs.bind,Qdq]
 by_cases w4:isW wUse l=true
 ·have w4' : isW [117,115,101] l=true:=w4;have t1:=Qbg h;simp only[w4,w4', if_true,Qdf hL h (Qea w4),Qac,Q46 hL t1];have s1:=Qfn l.tail;cases hc:Qg4 l.tail with
  | bad l1 =>
   rw[hc] at s1;have t2:l1 <:+ L:=List.IsSuffix.trans s1 t1;simp only[Qac,Q99 hL t2,Qpc hL t2,Rs.bind,Qdq];exact⟨_,rfl⟩
  | ok s l1 =>
   rw[hc] at s1;simp only[Qac,Rs.bind];exact hone 13 s l1 (s1.1.trans t1)
 have w4' : isW [117,115,101] l=false:=by simpa using w4
 rw[if_neg w4];simp only[w4', Bool.false_eq_true,if_false,Qac];exact hone 9 [] l h
def RefL(L:List Qaa)(o:Option (((List Qab)×Int×Bool)⊕((List Qab)×Int×Bool)))(r:Rs (List Qab)):Prop:=match r with
 | .ok out l=>o=some (.inl (out,pos L l,false))∨o=some (.inr (out,pos L l,false))
 | .bad l=>∃ v,o=some (.inl (v,pos L l,true))
theorem Qabt{f:Nat}(hl:∀ (i o:Bool) (out:List Qab) (l:List Qaa),l <:+ L→l.length<f→BD out l→RefL L (Qa9 i o L out (pos L l) false) (Qd3 f i o out l)):RB L f (fun i o l=>Qd3 f i o [] l):=fun i o l h hn=>by
 have:=hl i o [] l h hn (.nil hL h);show Qdq L (Qav i o L (pos L l) false) (Qd3 f i o [] l);rw[Qav];cases hx:Qd3 f i o [] l with
 | ok out l' =>
  rw[hx] at this;rcases this with e | e
  ·rw[e]; rfl
  ·rw[e]; rfl
 | bad l' =>
  rw[hx] at this;obtain⟨v,e⟩:=this;rw[e];exact⟨v,rfl⟩
theorem Qaji:∀ (f:Nat) (i o:Bool) (out:List Qab) (l:List Qaa),l <:+ L→l.length<f→BD out l→RefL L (Qa9 i o L out (pos L l) false) (Qd3 f i o out l)
 | 0=>fun i o out l h hn _=>absurd hn (by omega)
 | f+1=>fun i o out l h hn hd0=>by
  have ih:=Qaji f;rw[Qa9,Qd3];by_cases hne:l=[]
  ·subst hne;have e:decide (pos L []<(L.length:Int))=false:=by rw[Qun]; simp
   simp[e,RefL]
  have e:decide (pos L l<(L.length:Int))=true:=(Qro h hne).2.2;have t1:=Qbg h;have n1:=Qcl hne;simp only[e,Bool.not_false,if_true,Qac,if_neg hne,Qlm hL h 1 (by decide)];by_cases k1:kd l=1
  ·simp only[k1,decide_true,if_true,Qdf hL h hne,Qac];have:=litO out (hd l).Text (fun v=>Qa9 i o L v (pos L l.tail) false) (by have:=hd0.len; omega) (by have:=hd0.txt; have:=Qvr l; omega);rw[show ∀ {a b:Option (((List Qab)×Int×Bool)⊕((List Qab)×Int×Bool))} {r:Rs (List Qab)},a=b→(RefL L a r↔RefL L b r) from fun h=>by rw[h]]<;>first | exact this | skip
   exact ih i o _ l.tail t1 (by omega) (hd0.lit hne)
  simp only[k1,decide_false,Bool.false_eq_true,if_false];have e12:(( if i then
     Qbw [101,110,100] L (pos L l) false>>=fun x13 =>
     if x13 then
      some true
     else
      if o then
       Qbw [101,108,115,101] L (pos L l) false>>=fun x14 =>
       some x14
      else
       some false
    else
     if o then
      Qbw [101,108,115,101] L (pos L l) false>>=fun x15 =>
      some x15
     else
      some false:Option (Bool)))=some ((i&&Qde wEnd l)||(o&&Qde Qes l)):=by
   simp only[Qyc hL h,Qac,Bool.not_false,Bool.true_and];cases i with
   | false=>cases o<;>simp
   | true =>
    cases ha:Qde [101,110,100] l with
    | true=>simp
    | false=>cases o<;>simp
  rw[e12,Qac];by_cases c:((i&&Qde wEnd l)||(o&&Qde Qes l))=true
  ·rw[if_pos c,if_pos c];exact .inr rfl
  rw[if_neg c,if_neg c,Qlm hL h 2 (by decide),Qac];by_cases k2:kd l=2
  ·simp only[k2,decide_true,Qdf hL h hne,Qac,if_true,Qlm hL t1 3 (by decide)];by_cases k3:kd l.tail=3
   ·have n2:=Qcl (Qdj (by decide) k3);simp only[k3,decide_true,if_true,Qdf hL t1 (Qdj (by decide) k3),Qac];exact ih i o out l.tail.tail (Qbg t1) (by omega) (hd0.suf ((List.tail_suffix _).trans (List.tail_suffix l)))
   ·simp only[k3,decide_false,Bool.false_eq_true,if_false];have ha:=Qanc hL (Qabt hL ih) (fun i o l=>Qg5 f i o [] l) t1 (by omega);have s1:=Q47 (fun i o l=>Qg5 f i o [] l) l.tail;have ea:∀ z:Qab,appL 120 out [z]=some (out++[z]):=fun z=>Qin (by have:=hd0.len; simp; omega) (by have:=hd0.len; simp; omega)
    cases hx:actR (fun i o l=>Qd3 f i o [] l) l.tail with
    | bad l2 =>
     rw[hx] at ha;obtain⟨x,ha⟩:=ha;simp only[ha,Qac,ea,Qaac hL,Rs.bind,RefL];exact⟨_,rfl⟩
    | ok x l2 =>
     rw[hx] at s1 ha;have ha:Qdb L (pos L l.tail) false=some (x,pos L l2,false):=ha;have s2:l2 <:+ l:=s1.1.trans (List.tail_suffix l);simp only[ha,Qac,ea,Rs.bind];exact ih i o (out++[x]) l2 (s2.trans h) (by have:=s1.2; omega) (hd0.app (Q75 hx) s2 (by have:=s1.2; omega))
  ·obtain⟨x,hx⟩:=Qal3 hL h;have ea:∀ z:Qab,appL 120 out [z]=some (out++[z]):=fun z=>Qin (by have:=hd0.len; simp; omega) (by have:=hd0.len; simp; omega)
   simp only[k2,decide_false,Qgt hL h,Qac,if_false,Qs5 hL h 3 (by decide),Bool.false_eq_true,hx,ea,Qaac hL,RefL];exact⟨_,rfl⟩
theorem Qand(i o:Bool){l:List Qaa}(h:l <:+ L):Qdq L (Qav i o L (pos L l) false) (bl20 i o l) :=
 Qabt hL (Qaji hL (l.length+1)) i o l h (by omega)
end
def Qch(c:UInt8):Bool:=decide (128≤c.toNat)&&decide (c.toNat<192)
def Qig(n:Nat):Bool:=decide (n≤1114111) && !(decide (55296≤n)&&decide (n≤57343))
def Qf5(c:UInt8)(r:List UInt8):Nat×Nat :=
  if c.toNat<128 then(c.toNat,1)
  else if 192≤c.toNat∧c.toNat<224 then
   match r with
   | c1::_=>if Qch c1=true∧128≤(c.toNat-192)*64+(c1.toNat-128) then((c.toNat-192)*64+(c1.toNat-128),2) else(65533,1)
   | _=>(65533,1)
  else if 224≤c.toNat∧c.toNat<240 then
   match r with
   | c1::c2::_=>if Qch c1=true∧Qch c2=true∧2048≤((c.toNat-224)*64+(c1.toNat-128))*64+(c2.toNat-128)∧Qig (((c.toNat-224)*64+(c1.toNat-128))*64+(c2.toNat-128))=true then(((c.toNat-224)*64+(c1.toNat-128))*64+(c2.toNat-128),3) else(65533,1)
   | _=>(65533,1)
  else if 240≤c.toNat∧c.toNat<248 then
   match r with
   | c1::c2::c3::_=>if Qch c1=true∧Qch c2=true∧Qch c3=true∧65536≤(((c.toNat-240)*64+(c1.toNat-128))*64+(c2.toNat-128))*64+(c3.toNat-128)∧Qig ((((c.toNat-240)*64+(c1.toNat-128))*64+(c2.toNat-128))*64+(c3.toNat-128))=true then((((c.toNat-240)*64+(c1.toNat-128))*64+(c2.toNat-128))*64+(c3.toNat-128),4) else(65533,1)
   | _=>(65533,1)
  else(65533,1)
def Qbp:List UInt8→Nat×Nat
 | []=>(0,0)
 | c::r=>Qf5 c r
theorem Q0h{n:Int}(h1 : -2147483648≤n)(h2:n≤2147483647):IntKind.i32.wrap n=n:=by
 simp[IntKind.wrap,IntKind.bits,IntKind.signed];omega
theorem Qal4{n:Int}(h1:0≤n)(h2:n≤255):IntKind.u8.wrap n=n:=by
 simp[IntKind.wrap,IntKind.bits,IntKind.signed];omega
theorem Qane:∀ c:Fin 256,bits .and .u8 ((c.1:Nat):Int) 63=((c.1 % 64:Nat):Int):=by decide +kernel
theorem Qal5:∀ c:Fin 256,(bits .and .u8 ((c.1:Nat):Int) 192 != 128) = !(decide (128≤c.1)&&decide (c.1<192)):=by decide +kernel
theorem Qanf:∀ c:Fin 256,bits .and .u8 ((c.1:Nat):Int) 31=((c.1 % 32:Nat):Int):=by decide +kernel
theorem Qang:∀ c:Fin 256,bits .and .u8 ((c.1:Nat):Int) 15=((c.1 % 16:Nat):Int):=by decide +kernel
theorem and7:∀ c:Fin 256,bits .and .u8 ((c.1:Nat):Int) 7=((c.1 % 8:Nat):Int):=by decide +kernel
theorem or64(a b:Nat)(ha:a<1000000)(hb:b<64):bits .or .i32 (IntKind.i32.wrap ((a:Int)*2 ^ (min (6:Int).toNat (IntKind.i32.bits)))) (IntKind.i32.wrap (b:Int))=((a*64+b:Nat):Int):=by
 have e1:IntKind.i32.wrap ((a:Int)*2 ^ (min (6:Int).toNat (IntKind.i32.bits)))=((a*64:Nat):Int):=by
  have:(min (6:Int).toNat (IntKind.i32.bits))=6:=rfl;rw[this,Q0h (by omega) (by omega)]; omega
 rw[e1,Q0h (by omega) (by omega)];have e2:(2:Nat) ^ 6*a+b=2 ^ 6*a ||| b:=Nat.two_pow_add_eq_or_of_lt (by omega) a
 have e3:a*64 ||| b=a*64+b:=by
  have:(2:Nat) ^ 6*a=a*64:=by omega
  rw[this] at e2; omega
 show IntKind.i32.wrap ((BitVec.ofInt 32 ((a*64:Nat):Int) ||| BitVec.ofInt 32 (b:Int)).toNat:Int)=_;rw[BitVec.toNat_or,BitVec.ofInt_natCast,BitVec.ofInt_natCast,BitVec.toNat_ofNat,BitVec.toNat_ofNat,Nat.mod_eq_of_lt (by omega),Nat.mod_eq_of_lt (by omega),e3,Q0h (by omega) (by omega)]
theorem b63(c:UInt8):bits .and .u8 (c.toNat:Int) 63=((c.toNat % 64:Nat):Int):=Qane ⟨c.toNat,c.toNat_lt⟩
theorem b192(c:UInt8):(bits .and .u8 (c.toNat:Int) 192 != 128) = !Qch c:=Qal5 ⟨c.toNat,c.toNat_lt⟩
theorem b31(c:UInt8):bits .and .u8 (c.toNat:Int) 31=((c.toNat % 32:Nat):Int):=Qanf ⟨c.toNat,c.toNat_lt⟩
theorem b15(c:UInt8):bits .and .u8 (c.toNat:Int) 15=((c.toNat % 16:Nat):Int):=Qang ⟨c.toNat,c.toNat_lt⟩
theorem b7(c:UInt8):bits .and .u8 (c.toNat:Int) 7=((c.toNat % 8:Nat):Int):=and7 ⟨c.toNat,c.toNat_lt⟩
theorem Qaiq{c:UInt8}(h:Qch c=true):c.toNat % 64=c.toNat-128:=by
 unfold Qch at h;simp at h;omega
def Q0i:Nat→List UInt8→Nat→Option Nat
 | 0,_,v=>some v
 | _+1,[],_=>none
 | m+1,c::r,v=>if Qch c=true then Q0i m r (v*64+(c.toNat-128)) else none
set_option maxRecDepth 20000 in
theorem Qal6(l:List UInt8)(m:Nat)(hm:m≤l.length)(hm3:m≤3):∀ (d k v:Nat),k+d=m→((k=0→v<64)∧(k≤1→v<4096)∧(k≤2→v<262144)) →
  Qhw l m v k=some (match Q0i d (l.drop k) v with | some n =>.inl (n:Int) | none =>.inr ()):=by
 intro d
 induction d with
 | zero =>
  intro k v hk _;rw[Qhw,ltI,decide_eq_false (by omega:¬ k<m)];rfl
 | succ d ih =>
  intro k v hk hv;have hkl:k<l.length:=by omega
  have:decide ((k:Int)<(m:Int))=true:=decide_eq_true (by omega);rw[Qhw];simp only[this,if_true,Qbr,getE hkl,Qac,b192,b63];rw[or64 v _ (by omega) (Nat.mod_lt _ (by omega)),Qbn (by omega),Qcj hkl];unfold Q0i;cases hc:Qch l[k] with
  | false=>rfl
  | true =>
   rw[Qaiq hc];have hlt:l[k].toNat-128<64:=by unfold Qch at hc; simp at hc; omega
   have hv2:(k+1=0→v*64+(l[k].toNat-128)<64)∧(k+1≤1→v*64+(l[k].toNat-128)<4096)∧(k+1≤2→v*64+(l[k].toNat-128)<262144):=by omega
   simp only[Bool.not_true,Bool.false_eq_true,if_false,if_true];exact ih (k+1) _ (by omega) hv2
theorem Qanh(l:List UInt8)(m v:Nat)(hm3:m≤3)(hv:v<64):Qsf l v m=some (match (if l.length<m then none else Q0i m l v) with | some n=>((n:Int),true) | none=>(0,false)):=by
 rw[Qsf,ltI];by_cases h:l.length<m
 ·rw[decide_eq_true h,if_pos h]; rfl
 ·rw[decide_eq_false h,if_neg h];have:=Qal6 l m (by omega) hm3 m 0 v (by omega) (by omega);rw[List.drop_zero] at this;rw[show(0:Int)=((0:Nat):Int) from rfl,this];cases Q0i m l v<;>rfl
theorem tIsR(n:Nat):Q2c (n:Int)=some (Qig n):=by
 have a:decide ((n:Int) ≥ 0)=true:=decide_eq_true (by omega);have b:decide ((n:Int)≤1114111)=decide (n≤1114111):=by
  by_cases h:n≤1114111
  ·rw[decide_eq_true h,decide_eq_true (by omega)]
  ·rw[decide_eq_false h,decide_eq_false (by omega)]
 rw[Q2c,a,b,Qig];by_cases h1:n<55296
 ·rw[decide_eq_true (show(n:Int)<55296 by omega),decide_eq_true (show n≤1114111 by omega),decide_eq_false (show ¬ 55296≤n by omega)]; rfl
 ·rw[decide_eq_false (show ¬ (n:Int)<55296 by omega),decide_eq_true (show 55296≤n by omega)];by_cases h2:n≤57343
  ·rw[decide_eq_false (show ¬ (n:Int)>57343 by omega),decide_eq_true h2,decide_eq_true (show n≤1114111 by omega)]; rfl
  ·rw[decide_eq_true (show(n:Int)>57343 by omega),decide_eq_false h2];cases decide (n≤1114111)<;>rfl
theorem rIsR(n:Nat):Qo5 (n:Int)=some (Qig n):=by
 have a:decide ((n:Int) ≥ 0)=true:=decide_eq_true (by omega);have b:decide ((n:Int)≤1114111)=decide (n≤1114111):=by
  by_cases h:n≤1114111
  ·rw[decide_eq_true h,decide_eq_true (by omega)]
  ·rw[decide_eq_false h,decide_eq_false (by omega)]
 have c:decide ((n:Int) ≥ 55296)=decide (55296≤n):=by
  by_cases h:55296≤n
  ·rw[decide_eq_true h,decide_eq_true (by omega)]
  ·rw[decide_eq_false h,decide_eq_false (by omega)]
 have d:decide ((n:Int)≤57343)=decide (n≤57343):=by
  by_cases h:n≤57343
  ·rw[decide_eq_true h,decide_eq_true (by omega)]
  ·rw[decide_eq_false h,decide_eq_false (by omega)]
 rw[Qo5,a,b,c,d,Qig];cases decide (n≤1114111)<;>cases decide (55296≤n)<;>cases decide (n≤57343)<;>rfl
theorem ltC(c:UInt8)(k:Nat):decide ((c.toNat:Int)<(k:Int))=decide (c.toNat<k):=ltI _ _
theorem geC(c:UInt8)(k:Nat):decide ((c.toNat:Int) ≥ (k:Int))=decide (k≤c.toNat):=by
 by_cases h:k≤c.toNat
 ·rw[decide_eq_true h,decide_eq_true (by omega)]
 ·rw[decide_eq_false h,decide_eq_false (by omega)]
def endP(o:Option Nat)(least m:Nat):Nat×Nat:=match o with
 | some n=>if least≤n∧Qig n=true then(n,m+1) else(65533,1)
 | none=>(65533,1)
set_option maxRecDepth 20000 in
theorem Qani(s:List UInt8)(k:Nat)(hk:k<s.length)(hs:s.length<9223372036854775807):Qvl s k=some (((Qbp (s.drop k)).1:Int),((Qbp (s.drop k)).2:Int)):=by
 have d1:decide ((k:Int)<0)=false:=decide_eq_false (by omega);have d2:decide ((k:Int) ≥ (s.length:Int))=false:=decide_eq_false (by omega);have hc:=s[k].toNat_lt;have hr:cutL s (wr ((k:Int)+1)) (s.length:Int)=some (s.drop (k+1)):=by
  rw[Qbn (by omega),Qku (by omega) (by omega) (by omega)];simp
 rw[Qvl,d1,d2,hr,Qcj hk];have l128:=ltC s[k] 128;have g192:=geC s[k] 192;have l224:=ltC s[k] 224;have g224:=geC s[k] 224;have l240:=ltC s[k] 240;have g240:=geC s[k] 240;have l248:=ltC s[k] 248;have b1:∀ a b:Bool,(if a=true then some b else some false:Option Bool)=some (a&&b):=fun a b=>by cases a<;>rfl
 simp only[Bool.false_eq_true,if_false,Qac,Qbr,getE hk];rw[show(128:Int)=((128:Nat):Int) from rfl,show(192:Int)=((192:Nat):Int) from rfl,show(224:Int)=((224:Nat):Int) from rfl,show(240:Int)=((240:Nat):Int) from rfl,show(248:Int)=((248:Nat):Int) from rfl,l128,g192,l224,g224,l240,g240,l248];simp only[b1,Qac];rw[Qbp];unfold Qf5;have fin:∀ (v least m:Nat),m≤3→v<64→(Qsf (s.drop (k+1)) (v:Int) (m:Int)>>=fun x10 =>
   (if(!x10.2)=true then some true else if decide (x10.1<(least:Int))=true then some true else Q2c x10.1>>=fun x12=>some (!x12):Option Bool)>>=fun o11 =>
   if o11=true then some ((65533:Int),(1:Int)) else some (x10.1,wr ((m:Int)+1))) =
   some (((endP (if(s.drop (k+1)).length<m then none else Q0i m (s.drop (k+1)) v) least m).1:Int),((endP (if(s.drop (k+1)).length<m then none else Q0i m (s.drop (k+1)) v) least m).2:Int)):=fun v least m hm hv=>by
  rw[Qanh _ m v hm hv];cases (if(s.drop (k+1)).length<m then none else Q0i m (s.drop (k+1)) v) with
  | none=>rfl
  | some n =>
   simp only[Qac,Bool.not_true,Bool.false_eq_true,if_false,ltI,tIsR,endP];by_cases h1:n<least
   ·rw[decide_eq_true h1,if_neg (fun h=>absurd h.1 (by omega):¬ (least≤n∧Qig n=true))]; rfl
   ·rw[decide_eq_false h1];cases hrn:Qig n with
    | true=>rw[if_pos (⟨by omega,rfl⟩:least≤n∧true=true),Qbn (by omega)]; rfl
    | false=>rw[if_neg (fun h=>by cases h.2:¬ (least≤n∧false=true))]; rfl
 by_cases h1:s[k].toNat<128
 ·rw[decide_eq_true h1,if_pos h1];simp only[if_true,Qac];rw[Q0h (by omega) (by omega)]; rfl
 rw[decide_eq_false h1,if_neg h1];simp only[Bool.false_eq_true,if_false];have cc:∀ c:UInt8,Qch c=true→c.toNat-128<64:=fun c h=>by unfold Qch at h; simp at h; omega
 by_cases h2:192≤s[k].toNat∧s[k].toNat<224
 ·rw[decide_eq_true h2.1,decide_eq_true h2.2,if_pos h2,b31];simp only[Bool.and_true,if_true,Qac];rw[Q0h (by omega) (by omega)];have f:=fin (s[k].toNat % 32) 128 1 (by omega) (by omega);rw[show((1:Nat):Int)=1 from rfl] at f;rw[f];have e:s[k].toNat % 32=s[k].toNat-192:=by omega
  rw[e];cases s.drop (k+1) with
  | nil=>rfl
  | cons c1 r1 =>
   simp only[List.length_cons,if_neg (by omega:¬ r1.length+1<1),Q0i];cases h:Qch c1 with
   | false=>rfl
   | true =>
    have:=cc c1 h;have hr:Qig ((s[k].toNat-192)*64+(c1.toNat-128))=true:=by unfold Qig; rw[decide_eq_true (by omega),decide_eq_false (by omega)]; rfl
    simp only[if_true,endP,hr,and_true,true_and]
 rw[if_neg h2];have d2:(decide (192≤s[k].toNat)&&decide (s[k].toNat<224))=false:=by
  rw[Bool.and_eq_false_iff];by_cases h:192≤s[k].toNat
  ·exact .inr (decide_eq_false (by omega))
  ·exact .inl (decide_eq_false h)
 rw[d2];simp only[Bool.false_eq_true,if_false];by_cases h3:224≤s[k].toNat∧s[k].toNat<240
 ·rw[decide_eq_true h3.1,decide_eq_true h3.2,if_pos h3,b15];simp only[Bool.and_true,if_true,Qac];rw[Q0h (by omega) (by omega)];have f:=fin (s[k].toNat % 16) 2048 2 (by omega) (by omega);rw[show((2:Nat):Int)=2 from rfl,show((2048:Nat):Int)=2048 from rfl] at f;rw[f];have e:s[k].toNat % 16=s[k].toNat-224:=by omega
  rw[e]
  match s.drop (k+1) with
  | []=>rfl
  | [c1]=>rfl
  | c1::c2::r1 =>
   simp only[List.length_cons,if_neg (by omega:¬ r1.length+1+1<2),Q0i];cases h:Qch c1 with
   | false=>rfl
   | true =>
    cases h' : Qch c2 with
    | false=>simp[endP]
    | true=>simp only[if_true,endP,true_and]
 rw[if_neg h3];have d3:(decide (224≤s[k].toNat)&&decide (s[k].toNat<240))=false:=by
  rw[Bool.and_eq_false_iff];by_cases h:224≤s[k].toNat
  ·exact .inr (decide_eq_false (by omega))
  ·exact .inl (decide_eq_false h)
 rw[d3];simp only[Bool.false_eq_true,if_false];by_cases h4:240≤s[k].toNat∧s[k].toNat<248
 ·rw[decide_eq_true h4.1,decide_eq_true h4.2,if_pos h4,b7];simp only[Bool.and_true,if_true,Qac];rw[Q0h (by omega) (by omega)];have f:=fin (s[k].toNat % 8) 65536 3 (by omega) (by omega);rw[show((3:Nat):Int)=3 from rfl,show((65536:Nat):Int)=65536 from rfl] at f;rw[f];have e:s[k].toNat % 8=s[k].toNat-240:=by omega
  rw[e]
  match s.drop (k+1) with
  | []=>rfl
  | [c1]=>rfl
  | [c1,c2]=>rfl
  | c1::c2::c3::r1 =>
   simp only[List.length_cons,if_neg (by omega:¬ r1.length+1+1+1<3),Q0i];cases h:Qch c1 with
   | false=>rfl
   | true =>
    cases h' : Qch c2 with
    | false=>simp[endP]
    | true =>
     cases h'' : Qch c3 with
     | false=>simp[endP]
     | true=>simp only[if_true,endP,true_and]
 rw[if_neg h4];have d4:(decide (240≤s[k].toNat)&&decide (s[k].toNat<248))=false:=by
  rw[Bool.and_eq_false_iff];by_cases h:240≤s[k].toNat
  ·exact .inr (decide_eq_false (by omega))
  ·exact .inl (decide_eq_false h)
 rw[d4];rfl
theorem Qsi(l:List UInt8)(h:l≠[]):1≤(Qbp l).2∧(Qbp l).2≤l.length:=by
 cases l with
 | nil=>exact absurd rfl h
 | cons c r =>
  rw[Qbp];unfold Qf5;split
  ·simp
  ·split
   ·split
    ·split<;>simp
    ·simp
   ·split
    ·split
     ·split<;>simp
     ·simp
    ·split
     ·split
      ·split<;>simp
      ·simp
     ·simp
def Qpv(n:Nat):List Nat :=
 if n<128 then [n] else if n<2048 then [192+n / 64,128+n % 64] else if n<65536 then [224+n / 4096,128+n / 64 % 64,128+n % 64] else [240+n / 262144,128+n / 4096 % 64,128+n / 64 % 64,128+n % 64]
theorem Qair(l:List Nat)(h:∀ x ∈ l,x<256)(m:List UInt8):(l.map UInt8.ofNat==m)=decide (l=m.map UInt8.toNat):=by
 have key:l.map UInt8.ofNat=m↔l=m.map UInt8.toNat:=by
  constructor
  ·intro e;subst e;rw[List.map_map]
   conv=>lhs; rw[← List.map_id l]
   refine List.map_congr_left fun x hx=>?_
   have:=h x hx;show x=(UInt8.ofNat x).toNat
   rw[UInt8.toNat_ofNat', Nat.mod_eq_of_lt this]
  ·intro e;subst e;rw[List.map_map]
   conv=>rhs; rw[← List.map_id m]
   exact List.map_congr_left fun x _=>by simp
 by_cases he:l.map UInt8.ofNat=m
 ·rw[decide_eq_true (key.1 he),beq_iff_eq]; exact he
 ·rw[decide_eq_false (fun k=>he (key.2 k)),beq_eq_false_iff_ne]; exact he
theorem Qabu(l:List Nat)(h:∀ x ∈ l,x<256):b2s (l.map fun x:Nat=>(x:Int))=some (l.map UInt8.ofNat):=by
 unfold b2s;rw[if_pos]
 ·rw[List.map_map]; rfl
 ·rw[List.all_eq_true];intro n hn;obtain⟨x,hx,rfl⟩:=List.mem_map.1 hn;have:=h x hx;simp only[decide_eq_true_eq];omega
theorem td(n k:Nat):((n:Int).tdiv (k:Int))=((n / k:Nat):Int):=by rw[Int.tdiv_eq_ediv_of_nonneg (by omega)]; rfl
theorem tm(n k:Nat):((n:Int).tmod (k:Int))=((n % k:Nat):Int):=by rw[Int.tmod_eq_emod_of_nonneg (by omega)]; rfl
theorem wrN(n:Nat)(h:n<9000000000000):wr (n:Int)=(n:Int):=Qd0 (by omega) (by omega)
theorem u8N(n:Nat)(h:n<256):IntKind.u8.wrap (n:Int)=(n:Int):=Qal4 (by omega) (by omega)
set_option maxRecDepth 20000 in
theorem Qal7(n:Nat)(h:Qig n=true):Qn9 (n:Int)=some ((Qpv n).map UInt8.ofNat):=by
 have hn:n≤1114111:=by unfold Qig at h; rw[Bool.and_eq_true] at h; exact of_decide_eq_true h.1
 have a1:decide ((n:Int)<128)=decide (n<128):=ltI n 128;have a2:decide ((n:Int)<2048)=decide (n<2048):=ltI n 2048;have a3:decide ((n:Int)<65536)=decide (n<65536):=ltI n 65536;have d64:(n:Int).tdiv 64=((n / 64:Nat):Int):=td n 64;have m64:(n:Int).tmod 64=((n % 64:Nat):Int):=tm n 64;have d4096:(n:Int).tdiv 4096=((n / 4096:Nat):Int):=td n 4096;have d262:(n:Int).tdiv 262144=((n / 262144:Nat):Int):=td n 262144;have w1:∀ a b:Nat,a+b<256→IntKind.u8.wrap (wr ((a:Int)+(b:Int)))=((a+b:Nat):Int):=fun a b h=>by
  rw[Qd0 (by omega) (by omega),Qal4 (by omega) (by omega)]; rfl
 rw[Qn9,rIsR,h];simp only[Qac,Bool.not_true,Bool.false_eq_true,if_false,a1,a2,a3,d64,m64,d4096,d262];rw[wrN (n / 64) (by omega),wrN (n / 4096) (by omega),wrN (n / 262144) (by omega)];have t64:(((n / 64:Nat):Int)).tmod 64=((n / 64 % 64:Nat):Int):=tm (n / 64) 64;have t4096:(((n / 4096:Nat):Int)).tmod 64=((n / 4096 % 64:Nat):Int):=tm (n / 4096) 64;rw[t64,t4096];unfold Qpv;by_cases h1:n<128
 ·rw[decide_eq_true h1,if_pos h1,u8N n (by omega)];simp only[if_true];have:=Qabu [n] (by simp; omega);simp only[List.map_cons,List.map_nil] at this;rw[this]; rfl
 rw[decide_eq_false h1,if_neg h1];by_cases h2:n<2048
 ·rw[decide_eq_true h2,if_pos h2];have e1:=w1 192 (n / 64) (by omega);have e2:=w1 128 (n % 64) (by omega);have:=Qabu [192+n / 64,128+n % 64] (by simp; omega);simp only[List.map_cons,List.map_nil] at this;simp only[Bool.false_eq_true,if_false,if_true];rw[show(192:Int)=((192:Nat):Int) from rfl,show(128:Int)=((128:Nat):Int) from rfl,e1,e2,this]; rfl
 rw[decide_eq_false h2,if_neg h2];by_cases h3:n<65536
 ·rw[decide_eq_true h3,if_pos h3];have e1:=w1 224 (n / 4096) (by omega);have e2:=w1 128 (n / 64 % 64) (by omega);have e3:=w1 128 (n % 64) (by omega);have:=Qabu [224+n / 4096,128+n / 64 % 64,128+n % 64] (by simp; omega);simp only[List.map_cons,List.map_nil] at this;simp only[Bool.false_eq_true,if_false,if_true];rw[show(224:Int)=((224:Nat):Int) from rfl,show(128:Int)=((128:Nat):Int) from rfl,e1,e2,e3,this]; rfl
 rw[decide_eq_false h3,if_neg h3];have e0:=w1 240 (n / 262144) (by omega);have e1:=w1 128 (n / 4096 % 64) (by omega);have e2:=w1 128 (n / 64 % 64) (by omega);have e3:=w1 128 (n % 64) (by omega);have:=Qabu [240+n / 262144,128+n / 4096 % 64,128+n / 64 % 64,128+n % 64] (by simp; omega);simp only[List.map_cons,List.map_nil] at this;simp only[Bool.false_eq_true,if_false];rw[show(240:Int)=((240:Nat):Int) from rfl,show(128:Int)=((128:Nat):Int) from rfl,e0,e1,e2,e3,this]; rfl
theorem Qaf6(n:Nat)(h:n≤1114111):∀ x ∈ Qpv n,x<256:=by
 unfold Qpv;split
 ·simp; omega
 ·split
  ·simp; omega
  ·split<;>simp<;>omega
theorem Qanj(s:List UInt8)(k m:Nat)(hm:k+m≤s.length)(hs:s.length<9000000000000)(n:Int) :
  ( if(decide (n ≥ 0))=true then
    Qo5 n>>=fun x11 =>
    if x11=true then
     Qn9 n>>=fun x12 =>
     cutL s k (wr ((k:Int)+m))>>=fun x13 =>
     some (x12==x13)
    else
     some false
   else
    some false:Option Bool)=some (decide (0≤n)&&(Qig n.toNat&&decide (Qpv n.toNat=((s.take (k+m)).drop k).map UInt8.toNat))):=by
 have e:wr ((k:Int)+m)=((k+m:Nat):Int):=by rw[Qd0 (by omega) (by omega)]; rfl
 by_cases h:0≤n
 ·obtain⟨v,rfl⟩:∃ v:Nat,n=v:=⟨n.toNat,by omega⟩;rw[decide_eq_true (show(v:Int) ≥ 0 by omega),rIsR,e,Qku (by omega) (by omega) (by omega)];simp only[if_true,Qac,Int.toNat_natCast,Bool.true_and];cases hr:Qig v with
  | false=>rfl
  | true =>
   have hv:v≤1114111:=by unfold Qig at hr; rw[Bool.and_eq_true] at hr; exact of_decide_eq_true hr.1
   rw[Qal7 v hr];simp only[if_true,Qac,Qair _ (Qaf6 v hv),Bool.true_and]
 ·rw[decide_eq_false (show ¬ n ≥ 0 from h)]; rfl
theorem wr64(a b:Int)(ha : -3000000≤a)(ha2:a≤3000000)(hb:0≤b)(hb2:b≤255):wr ((wr ((wr (64*a))+(wr b)))-128)=64*a+b-128:=by
 rw[Qd0 (n:=64*a) (by omega) (by omega),Qd0 (n:=b) (by omega) (by omega),Qd0 (n:=64*a+b) (by omega) (by omega),Qd0 (by omega) (by omega)]
def addN(a:Int)(c:UInt8):Int:=64*a+c.toNat-128
theorem rL2(s:List UInt8)(k:Nat)(v6:List Int)(m:Nat)(hm:k+m≤s.length)(hm4:m≤4)(hs:s.length<9000000000000):∀ d (i:Nat) (v:Int),i+d=m→1≤i→(i=1 → -300≤v∧v≤300)→(i=2 → -30000≤v∧v≤30000)→(i=3 → -3000000≤v∧v≤3000000) →
  Qhr s k v6 m v i=some (((s.drop (k+i)).take d).foldl addN v):=by
 intro d
 induction d with
 | zero =>
  intro i v hi _ _ _ _;rw[Qhr,ltI,decide_eq_false (by omega:¬ i<m)];simp
 | succ d ih =>
  intro i v hi hi1 h1 h2 h3;have hk:k+i<s.length:=by omega
  have e1:wr ((k:Int)+i)=((k+i:Nat):Int):=by rw[Qd0 (by omega) (by omega)]; rfl
  have hc:=s[k+i].toNat_lt;have hb : -3000000≤v∧v≤3000000:=by omega
  rw[Qhr,ltI,decide_eq_true (by omega:i<m),e1,Qbn (by omega)];simp only[if_true,Qbr,getE hk,Qac];rw[wr64 v _ hb.1 hb.2 (by omega) (by omega),Qcj hk,List.take_succ_cons,List.foldl_cons];exact ih (i+1) (addN v s[k+i]) (by omega) (by omega) (by omega) (by unfold addN; omega) (by unfold addN; omega)
def Q0j:List Int:=[0,0,192,224,240]
def numN(c:UInt8)(r:List UInt8)(m:Nat):Int:=(r.take (m-1)).foldl addN ((c.toNat:Int)-(Q0j[m]?.getD 0))
def tstB(c:UInt8)(r:List UInt8)(m:Nat):Bool:=decide (0≤numN c r m)&&(Qig (numN c r m).toNat&&decide (Qpv (numN c r m).toNat=((c::r).take m).map UInt8.toNat))
theorem rL1(s:List UInt8)(k:Nat)(hk:k<s.length)(hs:s.length<9000000000000)(m:Nat)(h1:1≤m)(h4:m≤4) :
  Qee s k Q0j m=if k+m≤s.length then(if tstB s[k] (s.drop (k+1)) m=true then some (.inr (numN s[k] (s.drop (k+1)) m,(m:Int))) else Qee s k Q0j ((m+1:Nat):Int)) else some (.inl ()):=by
 have e0:wr ((s.length:Int)-k)=((s.length-k:Nat):Int):=by rw[Qd0 (by omega) (by omega)]; omega
 have a4:decide ((m:Int)≤4)=true:=decide_eq_true (by omega);have hc:=s[k].toNat_lt;rw[Qee,e0,a4];by_cases hm:k+m≤s.length
 ·have a5:decide ((m:Int)≤((s.length-k:Nat):Int))=true:=decide_eq_true (by omega);obtain⟨ld,hld,hl0,hl1⟩:∃ ld:Int,Q0j[m]? = some ld∧0≤ld∧ld≤240:=by
   match m,h1,h4 with
   | 1,_,_=>exact⟨0,rfl,by omega,by omega⟩
   | 2,_,_=>exact⟨192,rfl,by omega,by omega⟩
   | 3,_,_=>exact⟨224,rfl,by omega,by omega⟩
   | 4,_,_=>exact⟨240,rfl,by omega,by omega⟩
  have ew:wr ((wr (s[k].toNat:Int))-ld)=(s[k].toNat:Int)-ld:=by rw[Qd0 (n:=(s[k].toNat:Int)) (by omega) (by omega),Qd0 (by omega) (by omega)]
  have h2:=rL2 s k Q0j m hm h4 hs (m-1) 1 ((s[k].toNat:Int)-ld) (by omega) (by omega) (by omega) (by omega) (by omega);have en:numN s[k] (s.drop (k+1)) m=((s.drop (k+1)).take (m-1)).foldl addN ((s[k].toNat:Int)-ld):=by rw[numN,hld]; rfl
  rw[← en,show((1:Nat):Int)=1 from rfl] at h2;have ht:=Qanj s k m hm hs (numN s[k] (s.drop (k+1)) m);have et:((s.take (k+m)).drop k)=((s[k]::s.drop (k+1)).take m):=by rw[← Qcj hk,List.drop_take]; congr 1; omega
  rw[et] at ht;rw[a5,if_pos hm,Qbn (by omega)];simp only[if_true,Qac,Qbr,getE hk,hld,ew,h2];rw[ht];rfl
 ·have a5:decide ((m:Int)≤((s.length-k:Nat):Int))=false:=decide_eq_false (by omega);rw[a5,if_neg hm];rfl
theorem tst1(c:UInt8)(r:List UInt8):tstB c r 1=decide (c.toNat<128)∧numN c r 1=(c.toNat:Int):=by
 have hc:=c.toNat_lt;have en:numN c r 1=(c.toNat:Int):=by simp[numN,Q0j]
 refine⟨?_,en⟩;have hr:Qig c.toNat=true:=by unfold Qig; rw[decide_eq_true (by omega),decide_eq_false (by omega)]; rfl
 rw[tstB,en,decide_eq_true (by omega),Int.toNat_natCast,hr];simp only[Bool.true_and,List.take_succ_cons,List.take_zero,List.map_cons,List.map_nil];unfold Qpv;by_cases h:c.toNat<128
 ·rw[decide_eq_true h,if_pos h]; simp
 ·rw[decide_eq_false h,if_neg h,if_pos (by omega)];simp
theorem tst2(c c1:UInt8)(r:List UInt8):tstB c (c1::r) 2=decide ((192≤c.toNat∧c.toNat<224)∧Qch c1=true∧128≤(c.toNat-192)*64+(c1.toNat-128))∧numN c (c1::r) 2=64*((c.toNat:Int)-192)+c1.toNat-128:=by
 have hc:=c.toNat_lt;have hc1:=c1.toNat_lt;have en:numN c (c1::r) 2=64*((c.toNat:Int)-192)+c1.toNat-128:=by simp[numN,Q0j,addN]
 refine⟨?_,en⟩;rw[tstB,en];simp only[List.take_succ_cons,List.take_zero,List.map_cons,List.map_nil];have hcont:Qch c1=true↔(128≤c1.toNat∧c1.toNat<192):=by unfold Qch; simp
 by_cases hn:0≤64*((c.toNat:Int)-192)+c1.toNat-128
 ·obtain⟨n,hn2⟩:∃ n:Nat,64*((c.toNat:Int)-192)+c1.toNat-128=n:=⟨(64*((c.toNat:Int)-192)+c1.toNat-128).toNat,by omega⟩;rw[hn2,Int.toNat_natCast,decide_eq_true (by omega),Bool.true_and];have hlt:n<5000:=by omega
  have hr:Qig n=true:=by unfold Qig; rw[decide_eq_true (by omega),decide_eq_false (by omega)]; rfl
  rw[hr,Bool.true_and];congr 1;apply propext;rw[hcont];unfold Qpv;by_cases h1:n<128
  ·rw[if_pos h1];constructor
   ·intro h; simp at h
   ·intro h; omega
  ·rw[if_neg h1];by_cases h2:n<2048
   ·rw[if_pos h2];simp only[List.cons.injEq,and_true];omega
   ·rw[if_neg h2,if_pos (by omega)];constructor
    ·intro h; simp at h
    ·intro h; omega
 ·rw[decide_eq_false hn,Bool.false_and,decide_eq_false];rw[hcont]; omega
theorem tst3(c c1 c2:UInt8)(r:List UInt8):tstB c (c1::c2::r) 3=decide ((224≤c.toNat∧c.toNat<240)∧Qch c1=true∧Qch c2=true∧2048≤((c.toNat-224)*64+(c1.toNat-128))*64+(c2.toNat-128)∧Qig (((c.toNat-224)*64+(c1.toNat-128))*64+(c2.toNat-128))=true) ∧
  numN c (c1::c2::r) 3=64*(64*((c.toNat:Int)-224)+c1.toNat-128)+c2.toNat-128:=by
 have hc:=c.toNat_lt;have hc1:=c1.toNat_lt;have hc2:=c2.toNat_lt;have en:numN c (c1::c2::r) 3=64*(64*((c.toNat:Int)-224)+c1.toNat-128)+c2.toNat-128:=by simp[numN,Q0j,addN]
 refine⟨?_,en⟩;rw[tstB,en];simp only[List.take_succ_cons,List.take_zero,List.map_cons,List.map_nil];have hcont:Qch c1=true↔(128≤c1.toNat∧c1.toNat<192):=by unfold Qch; simp
 have hcont2:Qch c2=true↔(128≤c2.toNat∧c2.toNat<192):=by unfold Qch; simp
 by_cases hn:0≤64*(64*((c.toNat:Int)-224)+c1.toNat-128)+c2.toNat-128
 ·obtain⟨n,hn2⟩:∃ n:Nat,64*(64*((c.toNat:Int)-224)+c1.toNat-128)+c2.toNat-128=n:=⟨(64*(64*((c.toNat:Int)-224)+c1.toNat-128)+c2.toNat-128).toNat,by omega⟩;rw[hn2,Int.toNat_natCast,decide_eq_true (by omega),Bool.true_and];have hlt:n<200000:=by omega
  have key:Qpv n=[c.toNat,c1.toNat,c2.toNat]↔((224≤c.toNat∧c.toNat<240)∧(128≤c1.toNat∧c1.toNat<192)∧(128≤c2.toNat∧c2.toNat<192)∧2048≤n):=by
   unfold Qpv;by_cases h1:n<128
   ·rw[if_pos h1];exact⟨fun h=>by simp at h,fun h=>by omega⟩
   rw[if_neg h1];by_cases h2:n<2048
   ·rw[if_pos h2];exact⟨fun h=>by simp at h,fun h=>by omega⟩
   rw[if_neg h2];by_cases h3:n<65536
   ·rw[if_pos h3];simp only[List.cons.injEq,and_true];omega
   ·rw[if_neg h3];exact⟨fun h=>by simp at h,fun h=>by omega⟩
  rw[Bool.eq_iff_iff];simp only[Bool.and_eq_true,decide_eq_true_eq];rw[key,hcont,hcont2];constructor
  ·rintro ⟨hr,a,b,c', d⟩;have e:((c.toNat-224)*64+(c1.toNat-128))*64+(c2.toNat-128)=n:=by omega
   exact⟨a,b,c', by omega,by rw[e]; exact hr⟩
  ·rintro ⟨a,b,c', d,hr⟩;have e:((c.toNat-224)*64+(c1.toNat-128))*64+(c2.toNat-128)=n:=by omega
   rw[e] at hr d;exact⟨hr,a,b,c', d⟩
 ·rw[decide_eq_false hn,Bool.false_and,decide_eq_false];rw[hcont,hcont2]; omega
theorem tst4(c c1 c2 c3:UInt8)(r:List UInt8):tstB c (c1::c2::c3::r) 4=decide ((240≤c.toNat∧c.toNat<248)∧Qch c1=true∧Qch c2=true∧Qch c3=true∧65536≤(((c.toNat-240)*64+(c1.toNat-128))*64+(c2.toNat-128))*64+(c3.toNat-128)∧Qig ((((c.toNat-240)*64+(c1.toNat-128))*64+(c2.toNat-128))*64+(c3.toNat-128))=true) ∧
  numN c (c1::c2::c3::r) 4=64*(64*(64*((c.toNat:Int)-240)+c1.toNat-128)+c2.toNat-128)+c3.toNat-128:=by
 have hc:=c.toNat_lt;have hc1:=c1.toNat_lt;have hc2:=c2.toNat_lt;have hc3:=c3.toNat_lt;have en:numN c (c1::c2::c3::r) 4=64*(64*(64*((c.toNat:Int)-240)+c1.toNat-128)+c2.toNat-128)+c3.toNat-128:=by simp[numN,Q0j,addN]
 refine⟨?_,en⟩;rw[tstB,en];simp only[List.take_succ_cons,List.take_zero,List.map_cons,List.map_nil];have hcont:Qch c1=true↔(128≤c1.toNat∧c1.toNat<192):=by unfold Qch; simp
 have hcont2:Qch c2=true↔(128≤c2.toNat∧c2.toNat<192):=by unfold Qch; simp
 have hcont3:Qch c3=true↔(128≤c3.toNat∧c3.toNat<192):=by unfold Qch; simp
 by_cases hn:0≤64*(64*(64*((c.toNat:Int)-240)+c1.toNat-128)+c2.toNat-128)+c3.toNat-128
 ·obtain⟨n,hn2⟩:∃ n:Nat,64*(64*(64*((c.toNat:Int)-240)+c1.toNat-128)+c2.toNat-128)+c3.toNat-128=n:=⟨(64*(64*(64*((c.toNat:Int)-240)+c1.toNat-128)+c2.toNat-128)+c3.toNat-128).toNat,by omega⟩;rw[hn2,Int.toNat_natCast,decide_eq_true (by omega),Bool.true_and];have key:Qig n=true→(Qpv n=[c.toNat,c1.toNat,c2.toNat,c3.toNat]↔((240≤c.toNat∧c.toNat<248)∧(128≤c1.toNat∧c1.toNat<192)∧(128≤c2.toNat∧c2.toNat<192)∧(128≤c3.toNat∧c3.toNat<192)∧65536≤n)):=fun hr=>by
   have hlt:n≤1114111:=by unfold Qig at hr; rw[Bool.and_eq_true] at hr; exact of_decide_eq_true hr.1
   unfold Qpv;by_cases h1:n<128
   ·rw[if_pos h1];exact⟨fun h=>by simp at h,fun h=>by omega⟩
   rw[if_neg h1];by_cases h2:n<2048
   ·rw[if_pos h2];exact⟨fun h=>by simp at h,fun h=>by omega⟩
   rw[if_neg h2];by_cases h3:n<65536
   ·rw[if_pos h3];exact⟨fun h=>by simp at h,fun h=>by omega⟩
   ·rw[if_neg h3];simp only[List.cons.injEq,and_true];omega
  rw[Bool.eq_iff_iff];simp only[Bool.and_eq_true,decide_eq_true_eq];rw[hcont,hcont2,hcont3];constructor
  ·rintro ⟨hr,hb⟩;obtain⟨a,b,c', d', d⟩:=(key hr).1 hb;have e:(((c.toNat-240)*64+(c1.toNat-128))*64+(c2.toNat-128))*64+(c3.toNat-128)=n:=by omega
   exact⟨a,b,c', d', by omega,by rw[e]; exact hr⟩
  ·rintro ⟨a,b,c', d', d,hr⟩;have e:(((c.toNat-240)*64+(c1.toNat-128))*64+(c2.toNat-128))*64+(c3.toNat-128)=n:=by omega
   rw[e] at hr d;exact⟨hr,(key hr).2 ⟨a,b,c', d', d⟩⟩
 ·rw[decide_eq_false hn,Bool.false_and,decide_eq_false];rw[hcont,hcont2,hcont3]; omega
theorem Qal8(s:List UInt8)(k:Nat)(hk:k<s.length)(hs:s.length<9000000000000):Qsc s k=some (((Qbp (s.drop k)).1:Int),((Qbp (s.drop k)).2:Int)):=by
 have d1:decide ((k:Int)<0)=false:=decide_eq_false (by omega);have d2:decide ((k:Int) ≥ (s.length:Int))=false:=decide_eq_false (by omega);have hc:=s[k].toNat_lt;have l1:=rL1 s k hk hs 1 (by omega) (by omega);have l2:=rL1 s k hk hs 2 (by omega) (by omega);have l3:=rL1 s k hk hs 3 (by omega) (by omega);have l4:=rL1 s k hk hs 4 (by omega) (by omega);have l5:Qee s k Q0j ((4+1:Nat):Int)=some (.inl ()):=by
  rw[Qee,show decide (((4+1:Nat):Int)≤4)=false from rfl];simp only[Bool.false_eq_true,if_false,Qac]
 have hdl:(s.drop (k+1)).length=s.length-(k+1):=List.length_drop;rw[Qsc,d1,d2,Qcj hk,Qbp];show(Qee s k Q0j ((1:Nat):Int)>>=_)=_;rw[l1,if_pos (by omega),(tst1 _ _).1,(tst1 _ _).2,l2];unfold Qf5;by_cases h1:s[k].toNat<128
 ·rw[decide_eq_true h1,if_pos rfl,if_pos h1]; rfl
 rw[decide_eq_false h1,if_neg (by decide),if_neg h1];generalize hr:s.drop (k+1)=r at *
 match r with
 | [] =>
  simp at hdl;rw[if_neg (by omega)];simp
 | [c1] =>
  simp at hdl;have hc1:=c1.toNat_lt;rw[if_pos (by omega),(tst2 _ _ _).1,(tst2 _ _ _).2,l3,if_neg (by omega:¬ k+3≤s.length)];dsimp only;by_cases h2:192≤s[k].toNat∧s[k].toNat<224
  ·rw[if_pos h2];by_cases h3:Qch c1=true∧128≤(s[k].toNat-192)*64+(c1.toNat-128)
   ·have h4:128≤c1.toNat:=by have:=h3.1; unfold Qch at this; simp at this; exact this.1
    rw[decide_eq_true ⟨h2,h3⟩,if_pos rfl,if_pos h3];simp only[Qac];congr 2;omega
   ·rw[decide_eq_false (fun h=>h3 h.2),if_neg (by decide),if_neg h3]; rfl
  ·rw[decide_eq_false (fun h=>h2 h.1),if_neg (by decide),if_neg h2];simp
 | [c1,c2] =>
  simp at hdl;have hc1:=c1.toNat_lt;have hc2:=c2.toNat_lt;rw[if_pos (by omega),(tst2 _ _ _).1,(tst2 _ _ _).2,l3,if_pos (by omega:k+3≤s.length),(tst3 _ _ _ _).1,(tst3 _ _ _ _).2,l4,if_neg (by omega:¬ k+4≤s.length)];dsimp only;by_cases h2:192≤s[k].toNat∧s[k].toNat<224
  ·rw[if_pos h2];by_cases h3:Qch c1=true∧128≤(s[k].toNat-192)*64+(c1.toNat-128)
   ·have h4:128≤c1.toNat:=by have:=h3.1; unfold Qch at this; simp at this; exact this.1
    rw[decide_eq_true ⟨h2,h3⟩,if_pos rfl,if_pos h3];simp only[Qac];congr 2;omega
   ·rw[decide_eq_false (fun h=>h3 h.2),if_neg (by decide),if_neg h3,decide_eq_false (fun h=>by have:=h.1; omega),if_neg (by decide)]; rfl
  ·rw[decide_eq_false (fun h=>h2 h.1),if_neg (by decide),if_neg h2];by_cases h5:224≤s[k].toNat∧s[k].toNat<240
   ·rw[if_pos h5];by_cases h6:Qch c1=true∧Qch c2=true∧2048≤((s[k].toNat-224)*64+(c1.toNat-128))*64+(c2.toNat-128)∧Qig (((s[k].toNat-224)*64+(c1.toNat-128))*64+(c2.toNat-128))=true
    ·have h4:128≤c1.toNat:=by have:=h6.1; unfold Qch at this; simp at this; exact this.1
     have h4' : 128≤c2.toNat:=by have:=h6.2.1; unfold Qch at this; simp at this; exact this.1
     rw[decide_eq_true ⟨h5,h6⟩,if_pos rfl,if_pos h6];simp only[Qac];congr 2;omega
    ·rw[decide_eq_false (fun h=>h6 h.2),if_neg (by decide),if_neg h6]; rfl
   ·rw[decide_eq_false (fun h=>h5 h.1),if_neg (by decide),if_neg h5];simp
 | c1::c2::c3::r =>
  simp at hdl;have hc1:=c1.toNat_lt;have hc2:=c2.toNat_lt;have hc3:=c3.toNat_lt;rw[if_pos (by omega),(tst2 _ _ _).1,(tst2 _ _ _).2,l3,if_pos (by omega:k+3≤s.length),(tst3 _ _ _ _).1,(tst3 _ _ _ _).2,l4,if_pos (by omega:k+4≤s.length),(tst4 _ _ _ _ _).1,(tst4 _ _ _ _ _).2,l5];dsimp only;by_cases h2:192≤s[k].toNat∧s[k].toNat<224
  ·rw[if_pos h2];by_cases h3:Qch c1=true∧128≤(s[k].toNat-192)*64+(c1.toNat-128)
   ·have h4:128≤c1.toNat:=by have:=h3.1; unfold Qch at this; simp at this; exact this.1
    rw[decide_eq_true ⟨h2,h3⟩,if_pos rfl,if_pos h3];simp only[Qac];congr 2;omega
   ·rw[decide_eq_false (fun h=>h3 h.2),if_neg (by decide),if_neg h3,decide_eq_false (fun h=>by have:=h.1; omega),if_neg (by decide),decide_eq_false (fun h=>by have:=h.1; omega),if_neg (by decide)]; rfl
  ·rw[decide_eq_false (fun h=>h2 h.1),if_neg (by decide),if_neg h2];by_cases h5:224≤s[k].toNat∧s[k].toNat<240
   ·rw[if_pos h5];by_cases h6:Qch c1=true∧Qch c2=true∧2048≤((s[k].toNat-224)*64+(c1.toNat-128))*64+(c2.toNat-128)∧Qig (((s[k].toNat-224)*64+(c1.toNat-128))*64+(c2.toNat-128))=true
    ·have h4:128≤c1.toNat:=by have:=h6.1; unfold Qch at this; simp at this; exact this.1
     have h4' : 128≤c2.toNat:=by have:=h6.2.1; unfold Qch at this; simp at this; exact this.1
     rw[decide_eq_true ⟨h5,h6⟩,if_pos rfl,if_pos h6];simp only[Qac];congr 2;omega
    ·rw[decide_eq_false (fun h=>h6 h.2),if_neg (by decide),if_neg h6,decide_eq_false (fun h=>by have:=h.1; omega),if_neg (by decide)]; rfl
   ·rw[decide_eq_false (fun h=>h5 h.1),if_neg (by decide),if_neg h5];by_cases h7:240≤s[k].toNat∧s[k].toNat<248
    ·rw[if_pos h7];by_cases h8:Qch c1=true∧Qch c2=true∧Qch c3=true∧65536≤(((s[k].toNat-240)*64+(c1.toNat-128))*64+(c2.toNat-128))*64+(c3.toNat-128)∧Qig ((((s[k].toNat-240)*64+(c1.toNat-128))*64+(c2.toNat-128))*64+(c3.toNat-128))=true
     ·have h4:128≤c1.toNat:=by have:=h8.1; unfold Qch at this; simp at this; exact this.1
      have h4' : 128≤c2.toNat:=by have:=h8.2.1; unfold Qch at this; simp at this; exact this.1
      have h4'' : 128≤c3.toNat:=by have:=h8.2.2.1; unfold Qch at this; simp at this; exact this.1
      rw[decide_eq_true ⟨h7,h8⟩,if_pos rfl,if_pos h8];simp only[Qac];congr 2;omega
     ·rw[decide_eq_false (fun h=>h8 h.2),if_neg (by decide),if_neg h8]; rfl
    ·rw[decide_eq_false (fun h=>h7 h.1),if_neg (by decide),if_neg h7];rfl
def utfF:Nat→List UInt8→Bool
 | 0,_=>true
 | n+1,l=>match l with
  | []=>true
  | _::_=>if(Qbp l).1=65533∧(Qbp l).2=1 then false else utfF n (l.drop (Qbp l).2)
theorem Qrq(n:Nat)(l:List UInt8)(h:l≠[]):utfF (n+1) l=if(Qbp l).1=65533∧(Qbp l).2=1 then false else utfF n (l.drop (Qbp l).2):=by
 cases l with
 | nil=>exact absurd rfl h
 | cons c r=>rfl
theorem badI(p:Nat×Nat):(if(((p.1:Nat):Int)==65533)=true then some (((p.2:Nat):Int)==1) else some false:Option Bool)=some (decide (p.1=65533∧p.2=1)):=by
 have a:=eqN p.1 65533;have b:=eqN p.2 1;rw[show(65533:Int)=((65533:Nat):Int) from rfl,show(1:Int)=((1:Nat):Int) from rfl,a,b];by_cases h1:p.1=65533
 ·rw[beq_iff_eq.2 h1,if_pos rfl];by_cases h2:p.2=1
  ·rw[beq_iff_eq.2 h2,decide_eq_true ⟨h1,h2⟩]
  ·rw[beq_eq_false_iff_ne.2 h2,decide_eq_false (fun h=>h2 h.2)]
 ·rw[beq_eq_false_iff_ne.2 h1,if_neg (by decide),decide_eq_false (fun h=>h1 h.1)]
theorem rIsU(s:List UInt8)(hs:s.length<9000000000000):∀ n k,k≤s.length→s.length-k≤n→Qkn s k=some (if utfF n (s.drop k)=true then .inl () else .inr ()):=by
 intro n
 induction n with
 | zero =>
  intro k h1 h2;rw[Qkn,ltI,decide_eq_false (by omega:¬ k<s.length)];rfl
 | succ n ih =>
  intro k h1 h2;by_cases hk:k<s.length
  ·have hne:s.drop k≠[]:=by rw[Qcj hk]; exact List.cons_ne_nil _ _
   obtain⟨z1,z2⟩:=Qsi _ hne;rw[List.length_drop] at z2;have ew:wr ((k:Int)+((Qbp (s.drop k)).2:Int))=((k+(Qbp (s.drop k)).2:Nat):Int):=by rw[Qd0 (by omega) (by omega)]; rfl
   rw[Qkn,ltI,decide_eq_true hk,Qal8 s k hk hs];simp only[if_true,Qac];rw[badI (Qbp (s.drop k)),ew,ih _ (by omega) (by omega),Qrq n _ hne,List.drop_drop];by_cases hb:(Qbp (s.drop k)).1=65533∧(Qbp (s.drop k)).2=1
   ·rw[decide_eq_true hb,if_pos hb]; rfl
   ·rw[decide_eq_false hb,if_neg hb]; rfl
  ·rw[Qkn,ltI,decide_eq_false hk,List.drop_eq_nil_of_le (by omega)];rfl
theorem rUtf(s:List UInt8)(hs:s.length<9000000000000):Q7l s=some (utfF s.length s):=by
 have:=rIsU s hs s.length 0 (by omega) (by omega);rw[Q7l,show(0:Int)=((0:Nat):Int) from rfl,this,List.drop_zero];cases utfF s.length s<;>rfl
def qb(c:UInt8):List UInt8:=if c=10 then [92,110] else if c=9 then [92,116] else if c=34∨c=92 then [92,c] else [c]
def qs(s:List UInt8):List UInt8:=s.flatMap qb
theorem Qajj(c:UInt8):(qb c).length≤2:=by unfold qb; split; simp; split; simp; split<;>simp
theorem Qajk:∀ s:List UInt8,(qs s).length≤2*s.length
 | []=>by simp[qs]
 | c::r=>by
  have:=Qajk r;have:=Qajj c;simp[qs] at *;omega
theorem eqC(c:UInt8)(k:Nat)(hk:k<256):((c.toNat:Int)==(k:Int))=decide (c=UInt8.ofNat k):=by
 rw[eqN];by_cases h:c.toNat=k
 ·rw[beq_iff_eq.2 h,decide_eq_true];apply UInt8.toNat_inj.1;rw[h,UInt8.toNat_ofNat', Nat.mod_eq_of_lt hk]
 ·rw[beq_eq_false_iff_ne.2 h,decide_eq_false];intro e; apply h; rw[e,UInt8.toNat_ofNat', Nat.mod_eq_of_lt hk]
theorem Qakw(s:List UInt8)(hs:s.length≤1000000):∀ k,k≤s.length→∀ acc:List UInt8,acc.length≤2*k+1→Qev s acc k=some (if(s.drop k).any (· == 13)=true then .inr () else .inl (acc++qs (s.drop k))):=by
 refine upto ?_ fun k hk ih=>?_
 ·intro acc _;rw[Qev]; simp[qs]
 ·intro acc ha;have ec:cutL s k (wr ((k:Int)+1))=some [s[k]]:=by
   rw[Qbn (by omega),Qku (by omega) (by omega) (by omega),Int.toNat_natCast,Int.toNat_natCast];congr 1;rw[List.drop_take,Qcj hk];have:k+1-k=1:=by omega
   rw[this]; rfl
  have eq:qs (s.drop k)=qb s[k]++qs (s.drop (k+1)):=by rw[Qcj hk]; rfl
  have eany:(s.drop k).any (· == 13)=(s[k]==13||(s.drop (k+1)).any (· == 13)):=by rw[Qcj hk]; rfl
  have e1:∀ b:UInt8,(([s[k]]:List UInt8)==[b])=decide (s[k]=b):=fun b=>by
   rw[List.cons_beq_cons];by_cases h:s[k]=b
   ·rw[decide_eq_true h,beq_iff_eq.2 h]; rfl
   ·rw[decide_eq_false h,beq_eq_false_iff_ne.2 h]; rfl
  have hq:=Qajj s[k];rw[Qev,ec,Qbn (by omega),eany,eq];simp only[ltI,hk,decide_true,if_true,Qac,e1];by_cases h13:s[k]=13
  ·rw[decide_eq_true h13,beq_iff_eq.2 h13]; rfl
  rw[decide_eq_false h13,beq_eq_false_iff_ne.2 h13];have n1:need (([92]:List UInt8).length+[s[k]].length≤9223372036854775807)=some ():=Qa2 (by simp);have step:∀ w:List UInt8,qb s[k]=w→(need (acc.length+w.length≤9223372036854775807)>>=fun _=>Qev s (acc++w) ((k+1:Nat):Int))=some (if(s.drop (k+1)).any (· == 13)=true then .inr () else .inl (acc++(qb s[k]++qs (s.drop (k+1))))):=fun w hw=>by
   rw[Qa2 (by rw[← hw]; omega),Qac,ih _ (by rw[List.length_append,← hw]; omega),hw,List.append_assoc]
  simp only[Bool.false_eq_true,if_false,Bool.false_or,n1,Qac];by_cases h10:s[k]=10
  ·rw[decide_eq_true h10];exact step [92,110] (by unfold qb; rw[if_pos h10])
  rw[decide_eq_false h10];by_cases h9:s[k]=9
  ·rw[decide_eq_true h9];exact step [92,116] (by unfold qb; rw[if_neg h10,if_pos h9])
  rw[decide_eq_false h9];by_cases h34:s[k]=34
  ·rw[decide_eq_true h34];exact step ([92]++[s[k]]) (by unfold qb; rw[if_neg h10,if_neg h9,if_pos (show s[k]=34∨s[k]=92 from .inl h34)]; rfl)
  rw[decide_eq_false h34];by_cases h92:s[k]=92
  ·rw[decide_eq_true h92];exact step ([92]++[s[k]]) (by unfold qb; rw[if_neg h10,if_neg h9,if_pos (show s[k]=34∨s[k]=92 from .inr h92)]; rfl)
  ·rw[decide_eq_false h92];exact step [s[k]] (by unfold qb; rw[if_neg h10,if_neg h9,if_neg (show ¬ (s[k]=34∨s[k]=92) from fun q=>q.elim h34 h92)])
def quoV(s:List UInt8):List UInt8×Bool:=if utfF s.length s=true∧s.any (· == 13)=false then([34]++qs s++[34],true) else([],false)
theorem Q0k(s:List UInt8)(hs:s.length≤1000000):Qi2 s=some (quoV s)∧(quoV s).1.length≤2*s.length+2:=by
 unfold quoV;have hl:=Qajk s;have r:=Qakw s hs 0 (by omega) [34] (by simp);rw[List.drop_zero] at r;refine⟨?_,?_⟩
 ·rw[Qi2,rUtf s (by omega)];cases hu:utfF s.length s with
  | false=>rfl
  | true =>
   simp only[Qac,Bool.not_true,Bool.false_eq_true,if_false];rw[show(0:Int)=((0:Nat):Int) from rfl,r];cases ha:s.any (· == 13) with
   | true=>rfl
   | false =>
    simp only[Bool.false_eq_true,if_false,Qac,and_self,if_true];rw[Qa2 (by simp; omega)];rfl
 ·split
  ·simp; omega
  ·simp
def blB(c:UInt8):Bool:=c.toNat==32||(c.toNat==9||(c.toNat==10||c.toNat==13))
theorem Qajl(c:UInt8):Qrf (c.toNat:Int)=some (blB c):=by
 have a:=eqN c.toNat 32;have b:=eqN c.toNat 9;have d:=eqN c.toNat 10;have e:=eqN c.toNat 13;rw[Qrf];rw[show(32:Int)=((32:Nat):Int) from rfl,show(9:Int)=((9:Nat):Int) from rfl,show(10:Int)=((10:Nat):Int) from rfl,show(13:Int)=((13:Nat):Int) from rfl,a,b,d,e,blB];cases (c.toNat==32)<;>cases (c.toNat==9)<;>cases (c.toNat==10)<;>cases (c.toNat==13)<;>rfl
theorem Qaad(s:List UInt8)(k:Nat)(hk:k<s.length)(hs:s.length≤65536)(h:blB s[k]=true):Qd5 s k=Qd5 s ((k+1:Nat):Int):=by
 rw[Qd5,Qd5,Qe5,ltI,decide_eq_true hk,Qbn (by omega)];simp only[if_true,Qac,Qbr,getE hk,Qajl,h]
theorem Qaae(s:List UInt8)(k:Nat)(hk:k<s.length)(h:blB s[k]=false):Qd5 s k=some (k:Int):=by
 rw[Qd5,Qe5,ltI,decide_eq_true hk];simp only[if_true,Qac,Qbr,getE hk,Qajl,h,Bool.false_eq_true,if_false]
def two(a b:UInt8):List UInt8→Bool
 | c::d::_=>c==a&&d==b
 | _=>false
theorem Qabv(a b:UInt8)(s:List UInt8)(k:Nat)(hk:k<s.length)(hs:s.length≤65536):Qcs s [a,b] k=some (two a b (s.drop k)):=by
 have e1:decide ((k:Int) ≥ 0)=true:=decide_eq_true (by omega);have e2:decide ((k:Int)≤(s.length:Int))=true:=decide_eq_true (by omega);have e3:wr ((s.length:Int)-k)=((s.length-k:Nat):Int):=by rw[Qd0 (by omega) (by omega)]; omega
 have e4:wr ((k:Int)+(([a,b]:List UInt8).length:Int))=((k+2:Nat):Int):=by rw[Qd0 (by simp; omega) (by simp; omega)]; simp
 rw[Qcs,e1,e2,e3,e4];simp only[if_true];by_cases h2:2≤s.length-k
 ·have e5:decide (((([a,b]:List UInt8).length:Nat):Int)≤((s.length-k:Nat):Int))=true:=decide_eq_true (by simp; omega);rw[e5,Qku (by omega) (by omega) (by omega)];simp only[if_true,Qac];have hk1:k+1<s.length:=by omega
  have e6:(s.take (k+2)).drop k=[s[k],s[k+1]]:=by
   rw[List.drop_take,Qcj hk,Qcj hk1];have:k+2-k=2:=by omega
   rw[this]; rfl
  rw[Int.toNat_natCast,Int.toNat_natCast,e6,Qcj hk,Qcj hk1];rw[List.cons_beq_cons,List.cons_beq_cons];show some (s[k]==a&&(s[k+1]==b&&true))=_;rw[Bool.and_true]; rfl
 ·have e5:decide (((([a,b]:List UInt8).length:Nat):Int)≤((s.length-k:Nat):Int))=false:=decide_eq_false (by simp; omega);rw[e5,Qcj hk];have:s.drop (k+1)=[]:=List.drop_eq_nil_of_le (by omega);rw[this];rfl
theorem Qais(a:UInt8)(s:List UInt8)(k:Nat)(hk:k<s.length)(hs:s.length≤65536):Qcs s [a] k=some (s[k]==a):=by
 have e1:decide ((k:Int) ≥ 0)=true:=decide_eq_true (by omega);have e2:decide ((k:Int)≤(s.length:Int))=true:=decide_eq_true (by omega);have e3:wr ((s.length:Int)-k)=((s.length-k:Nat):Int):=by rw[Qd0 (by omega) (by omega)]; omega
 have e4:wr ((k:Int)+(([a]:List UInt8).length:Int))=((k+1:Nat):Int):=by rw[Qd0 (by simp; omega) (by simp; omega)]; simp
 have e5:decide (((([a]:List UInt8).length:Nat):Int)≤((s.length-k:Nat):Int))=true:=decide_eq_true (by simp; omega);rw[Qcs,e1,e2,e3,e4,e5,Qku (by omega) (by omega) (by omega)];simp only[if_true,Qac];have e6:(s.take (k+1)).drop k=[s[k]]:=by
  rw[List.drop_take,Qcj hk];have:k+1-k=1:=by omega
  rw[this]; rfl
 rw[Int.toNat_natCast,Int.toNat_natCast,e6,List.cons_beq_cons];show some (s[k]==a&&true)=_;rw[Bool.and_true]
theorem Qabw{s:List UInt8}{k:Nat}{t r:List UInt8}(h:s.drop k=t++r):s.drop (k+t.length)=r∧(k≤s.length→k+t.length≤s.length):=by
 constructor
 ·rw[← List.drop_drop,h,List.drop_left]
 ·intro hk;have:=congrArg List.length h;rw[List.length_drop,List.length_append] at this;omega
theorem eqS(a c:UInt8):(((a.toNat:Nat):Int)==((c.toNat:Nat):Int))=decide (c=a):=by
 rw[eqN];by_cases h:c=a
 ·subst h; simp
 ·rw[decide_eq_false h,beq_eq_false_iff_ne];intro q;exact h (UInt8.toNat_inj.1 q.symm)
theorem Q77(s:List UInt8)(p:Int)(c:UInt8)(j:Nat)(hj:j<5):Qfq s p c (j:Int) =
  if c=([46,40,41,44,61]:List UInt8)[j] then some (.inr (((7+j:Nat):Int),((7+j:Nat):Int))) else Qfq s p c ((j+1:Nat):Int):=by
 have e1:decide ((j:Int)<((([46,40,41,44,61]:List Nat).length:Nat):Int))=true:=decide_eq_true (by simp; omega);have e2:([7,8,9,10,11]:List Int)[j]? = some ((7+j:Nat):Int):=by
  obtain rfl | rfl | rfl | rfl | rfl:j=0∨j=1∨j=2∨j=3∨j=4:=by omega
  all_goals rfl
 rw[Qfq,e1,Qbn (by omega)];simp only[if_true,Qbr,getE (show j<([46,40,41,44,61]:List UInt8).length from hj),Qac,eqS,e2];by_cases h:c=([46,40,41,44,61]:List UInt8)[j]
 ·rw[if_pos h,decide_eq_true h]; rfl
 ·rw[if_neg h,decide_eq_false h]; rfl
def sgP(c:UInt8):Option Int:=if c=46 then some 7 else if c=40 then some 8 else if c=41 then some 9 else if c=44 then some 10 else if c=61 then some 11 else none
theorem Qal9(s:List UInt8)(p:Int)(c:UInt8):Qfq s p c 0=some (match sgP c with | some k =>.inr (k,k) | none =>.inl ()):=by
 have h5:Qfq s p c ((5:Nat):Int)=some (.inl ()):=by rw[Qfq]; rfl
 rw[show(0:Int)=((0:Nat):Int) from rfl,Q77 s p c 0 (by omega),Q77 s p c 1 (by omega),Q77 s p c 2 (by omega),Q77 s p c 3 (by omega),Q77 s p c 4 (by omega),h5,sgP];simp only[List.getElem_cons_zero,List.getElem_cons_succ];by_cases a:c=46
 ·subst a; rfl
 by_cases b:c=40
 ·subst b; rfl
 by_cases d:c=41
 ·subst d; rfl
 by_cases e:c=44
 ·subst e; rfl
 by_cases f:c=61
 ·subst f; rfl
 simp only[a,b,d,e,f,if_false]
theorem Qank(c:UInt8):(Qg1 (c.toNat:Int)>>=fun x13=>if x13=true then some true else Qg0 (c.toNat:Int)>>=fun x15=>if x15=true then some true else some ((c.toNat:Int)==95))=some (letB c):=by
 have e:=eqN c.toNat 95;rw[Qabn,Qabm,letB];simp only[Qac,show((95:Nat):Int)=95 from rfl] at e ⊢;rw[e];cases Qer c<;>cases digB c<;>rfl
theorem Qadk{c:UInt8}(h:Qch c=true):128≤c.toNat∧c.toNat<192:=by simpa [Qch] using h
theorem Quo(c:UInt8)(t:List UInt8)(hc:128≤c.toNat)(hg:¬ ((Qf5 c t).1=65533∧(Qf5 c t).2=1)):∃ w rest,c::t=w++rest∧(Qf5 c t).2=w.length∧2≤w.length∧(∀ b ∈ w,128≤b.toNat)∧128≤(Qf5 c t).1∧∀ r,Qbp (w++r)=Qf5 c t:=by
 have hn:¬ c.toNat<128:=by omega
 by_cases h2:192≤c.toNat∧c.toNat<224
 ·cases t with
  | nil=>exfalso; apply hg; unfold Qf5; rw[if_neg hn,if_pos h2]; exact⟨rfl,rfl⟩
  | cons c1 t =>
   by_cases hk:Qch c1=true∧128≤(c.toNat-192)*64+(c1.toNat-128)
   ·have e:∀ r,Qf5 c (c1::r)=((c.toNat-192)*64+(c1.toNat-128),2):=fun r=>by unfold Qf5; rw[if_neg hn,if_pos h2]; simp only; rw[if_pos hk]
    have:=Qadk hk.1;refine⟨[c,c1],t,rfl,by rw[e]; rfl,by simp,?_,by rw[e]; exact hk.2,fun r=>(e r).trans (e t).symm⟩;intro b hb;simp at hb;rcases hb with rfl | rfl<;>omega
   ·exfalso; apply hg; unfold Qf5; rw[if_neg hn,if_pos h2]; simp only; rw[if_neg hk]; exact⟨rfl,rfl⟩
 by_cases h3:224≤c.toNat∧c.toNat<240
 ·rcases t with _ | ⟨c1,_ | ⟨c2,t⟩⟩
  ·exfalso; apply hg; unfold Qf5; rw[if_neg hn,if_neg h2,if_pos h3]; exact⟨rfl,rfl⟩
  ·exfalso; apply hg; unfold Qf5; rw[if_neg hn,if_neg h2,if_pos h3]; exact⟨rfl,rfl⟩
  ·by_cases hk:Qch c1=true∧Qch c2=true∧2048≤((c.toNat-224)*64+(c1.toNat-128))*64+(c2.toNat-128)∧Qig (((c.toNat-224)*64+(c1.toNat-128))*64+(c2.toNat-128))=true
   ·have e:∀ r,Qf5 c (c1::c2::r)=(((c.toNat-224)*64+(c1.toNat-128))*64+(c2.toNat-128),3):=fun r=>by unfold Qf5; rw[if_neg hn,if_neg h2,if_pos h3]; simp only; rw[if_pos hk]
    have:=Qadk hk.1;have:=Qadk hk.2.1;refine⟨[c,c1,c2],t,rfl,by rw[e]; rfl,by simp,?_,by rw[e]; have:=hk.2.2.1; simp only; omega,fun r=>(e r).trans (e t).symm⟩;intro b hb;simp at hb;rcases hb with rfl | rfl | rfl<;>omega
   ·exfalso; apply hg; unfold Qf5; rw[if_neg hn,if_neg h2,if_pos h3]; simp only; rw[if_neg hk]; exact⟨rfl,rfl⟩
 by_cases h4:240≤c.toNat∧c.toNat<248
 ·rcases t with _ | ⟨c1,_ | ⟨c2,_ | ⟨c3,t⟩⟩⟩
  ·exfalso; apply hg; unfold Qf5; rw[if_neg hn,if_neg h2,if_neg h3,if_pos h4]; exact⟨rfl,rfl⟩
  ·exfalso; apply hg; unfold Qf5; rw[if_neg hn,if_neg h2,if_neg h3,if_pos h4]; exact⟨rfl,rfl⟩
  ·exfalso; apply hg; unfold Qf5; rw[if_neg hn,if_neg h2,if_neg h3,if_pos h4]; exact⟨rfl,rfl⟩
  ·by_cases hk:Qch c1=true∧Qch c2=true∧Qch c3=true∧65536≤(((c.toNat-240)*64+(c1.toNat-128))*64+(c2.toNat-128))*64+(c3.toNat-128)∧Qig ((((c.toNat-240)*64+(c1.toNat-128))*64+(c2.toNat-128))*64+(c3.toNat-128))=true
   ·have e:∀ r,Qf5 c (c1::c2::c3::r)=((((c.toNat-240)*64+(c1.toNat-128))*64+(c2.toNat-128))*64+(c3.toNat-128),4):=fun r=>by unfold Qf5; rw[if_neg hn,if_neg h2,if_neg h3,if_pos h4]; simp only; rw[if_pos hk]
    have:=Qadk hk.1;have:=Qadk hk.2.1;have:=Qadk hk.2.2.1;refine⟨[c,c1,c2,c3],t,rfl,by rw[e]; rfl,by simp,?_,by rw[e]; have:=hk.2.2.2.1; simp only; omega,fun r=>(e r).trans (e t).symm⟩;intro b hb;simp at hb;rcases hb with rfl | rfl | rfl | rfl<;>omega
   ·exfalso; apply hg; unfold Qf5; rw[if_neg hn,if_neg h2,if_neg h3,if_pos h4]; simp only; rw[if_neg hk]; exact⟨rfl,rfl⟩
 ·exfalso; apply hg; unfold Qf5; rw[if_neg hn,if_neg h2,if_neg h3,if_neg h4]; exact⟨rfl,rfl⟩
theorem Qama(a b:List UInt8):qs (a++b)=qs a++qs b:=by simp[qs]
theorem Qaf7:∀ w:List UInt8,(∀ b ∈ w,128≤b.toNat)→qs w=w
 | [],_=>rfl
 | c::t,h=>by
  have hc:=h c (List.mem_cons_self ..);have e:qb c=[c]:=by
   unfold qb;have ne:∀ d:UInt8,d.toNat<128→c≠d:=fun d hd e=>by subst e; omega
   rw[if_neg (ne 10 (by decide)),if_neg (ne 9 (by decide)),if_neg (by intro q; rcases q with q | q; exact ne 34 (by decide) q; exact ne 92 (by decide) q)]
  have ih:=Qaf7 t fun b hb=>h b (List.mem_cons_of_mem _ hb)
  show qb c++qs t=_;rw[e,ih]; rfl
def blN(l:List UInt8):Nat:=(l.takeWhile blB).length
theorem Qnc(c:UInt8)(r:List UInt8):blN (c::r)=if blB c then 1+blN r else 0:=by
 unfold blN;rw[List.takeWhile_cons];split
 ·rw[List.length_cons]; omega
 ·rfl
theorem Qtu:∀ l:List UInt8,blN l≤l.length
 | []=>Nat.le_refl _
 | c::r=>by
  have:=Qtu r;rw[Qnc,List.length_cons]; split<;>omega
theorem rBl(s:List UInt8)(hs:s.length≤65536):∀ k,k≤s.length→Qd5 s k=some ((k+blN (s.drop k):Nat):Int):=by
 refine upto ?_ fun k hk ih=>?_
 ·rw[Qd5,Qe5,ltI,decide_eq_false (by omega),if_neg (by decide),Qac,if_neg (by decide),Qac,List.drop_length]; rfl
 ·rw[Qcj hk,Qnc];by_cases hb:blB s[k]=true
  ·rw[Qaad s k hk hs hb,ih,if_pos hb,Nat.add_assoc]
  ·rw[Qaae s k hk (by simpa using hb),if_neg hb]; rfl
theorem blC(c:UInt8):([32,9,10,13]:List UInt8).contains c=blB c:=by
 have e:∀ d:UInt8,(c==d)=(c.toNat==d.toNat):=fun d=>by
  rw[Bool.eq_iff_iff,beq_iff_eq,beq_iff_eq];exact⟨fun h=>by rw[h],fun h=>UInt8.toNat_inj.1 h⟩
 rw[List.contains_cons,List.contains_cons,List.contains_cons,List.contains_cons,List.contains_nil,e,e,e,e,Bool.or_false];rfl
theorem Qamb:∀ l:List UInt8,(Lib.trimLeftS l [32,9,10,13]).length=l.length-blN l
 | []=>rfl
 | c::r=>by
  have ih:=Qamb r;have hle:=Qtu r;unfold Lib.trimLeftS at ih ⊢;rw[List.dropWhile_cons,blC,Qnc,List.length_cons];split
  ·rw[ih]; omega
  ·rw[List.length_cons]; omega
theorem lBl(s:List UInt8)(k:Nat)(hk:k≤s.length)(hs:s.length≤65536)(toks:List Qaa):Qc0 s k toks=some ((k+blN (s.drop k):Nat):Int):=by
 have h:=Qamb (s.drop k);have hle:=Qtu (s.drop k);rw[List.length_drop] at h hle;rw[Qc0,Qku (by omega) (by omega) (by omega),Qac,Qhd,Qa2 (by decide),Qac,Qa2 (by decide),Qac,Qac];have e:(s.take (s.length:Int).toNat).drop ((k:Int)).toNat=s.drop k:=by simp
 rw[e,h,Qd0 (by omega) (by omega)];congr 1;omega
def fnd(a b:UInt8):List UInt8→Nat
 | []=>0
 | c::r=>if two a b (c::r) then 0 else 1+fnd a b r
theorem Qxh(a b:UInt8):∀ l:List UInt8,fnd a b l≤l.length
 | []=>Nat.le_refl _
 | c::r=>by
  have:=Qxh a b r;rw[fnd,List.length_cons]; split<;>omega
theorem Q49{a b:UInt8}{l:List UInt8}(h:two a b l=true):2≤l.length:=by
 match l,h with
 | c::d::r,_=>simp
theorem Qajm(a b:UInt8):∀ l:List UInt8,fnd a b l<l.length→two a b (l.drop (fnd a b l))=true
 | [],h=>by simp at h
 | c::r,h=>by
  rw[fnd] at h ⊢;by_cases ht:two a b (c::r)=true
  ·rw[if_pos ht]; exact ht
  ·rw[if_neg ht,List.length_cons] at h;rw[if_neg ht,Nat.add_comm,List.drop_succ_cons];exact Qajm a b r (by omega)
theorem rFnd(a b:UInt8)(s:List UInt8)(hs:s.length≤65536):∀ k,k≤s.length→Qo7 s [a,b] k=some ((k+fnd a b (s.drop k):Nat):Int):=by
 have key:∀ k,k≤s.length→Qht s [a,b] k=some ((k+fnd a b (s.drop k):Nat):Int):=by
  refine upto ?_ fun k hk ih=>?_
  ·rw[Qht,ltI,decide_eq_false (by omega),if_neg (by decide),Qac,if_neg (by decide),List.drop_length]; rfl
  ·rw[Qht,ltI,decide_eq_true hk,if_pos rfl,Qabv a b s k hk hs,Qac,Qbn (by omega),ih,Qcj hk,fnd];cases two a b (s[k]::s.drop (k+1)) with
   | true=>rfl
   | false =>
    rw[Qac,Bool.not_false,if_pos rfl,if_neg (by decide),Nat.add_assoc]
 intro k hk;rw[Qo7,key k hk]; rfl
theorem Qamc(a b:UInt8)(l:List UInt8):[a,b].isPrefixOf l=two a b l:=by
 match l with
 | []=>rfl
 | [c]=>simp[List.isPrefixOf,two]
 | c::d::r =>
  show(a==c&&(b==d&&true))=(c==a&&d==b);rw[Bool.and_true,Bool.beq_comm (a:=a),Bool.beq_comm (a:=b)]
theorem lIdx(a b:UInt8):∀ l:List UInt8,Lib.index l [a,b]=if fnd a b l<l.length then(fnd a b l:Int) else -1
 | []=>rfl
 | c::r=>by
  have ih:=lIdx a b r;have hle:=Qxh a b r;unfold Lib.index;rw[Qamc,ih,fnd,List.length_cons];by_cases ht:two a b (c::r)=true
  ·rw[if_pos ht,if_pos ht,if_pos (by omega)]; rfl
  ·rw[if_neg ht,if_neg ht];by_cases hf:fnd a b r<r.length
   ·have h1:(((fnd a b r:Nat):Int) == -1)=false:=by rw[beq_eq_false_iff_ne]; omega
    rw[if_pos hf,h1,if_neg (show ¬ (false=true) by decide),if_pos (show 1+fnd a b r<r.length+1 by omega)];omega
   ·rw[if_neg hf,if_pos (show((-1:Int) == -1)=true from rfl),if_neg (show ¬ 1+fnd a b r<r.length+1 by omega)]
theorem Qamd(a b:UInt8)(s:List UInt8)(k:Nat)(hk:k≤s.length)(hs:s.length≤65536):Qcs s [a,b] k=some (two a b (s.drop k)):=by
 rcases Nat.lt_or_ge k s.length with h | h
 ·exact Qabv a b s k h hs
 ·have e:k=s.length:=by omega
  have e3:wr ((s.length:Int)-k)=0:=by rw[Qd0 (by omega) (by omega)]; omega
  rw[Qcs,decide_eq_true (by omega),if_pos rfl,decide_eq_true (by omega),if_pos rfl,e3,List.drop_eq_nil_of_le h];rfl
def oneB(a:UInt8):List UInt8→Bool
 | c::_=>c==a
 | []=>false
theorem Qanl(a:UInt8)(s:List UInt8)(k:Nat)(hk:k≤s.length)(hs:s.length≤65536):Qcs s [a] k=some (oneB a (s.drop k)):=by
 rcases Nat.lt_or_ge k s.length with h | h
 ·rw[Qais a s k h hs,Qcj h]; rfl
 ·have e3:wr ((s.length:Int)-k)=0:=by rw[Qd0 (by omega) (by omega)]; omega
  rw[Qcs,decide_eq_true (by omega),if_pos rfl,decide_eq_true (by omega),if_pos rfl,e3,List.drop_eq_nil_of_le h];rfl
theorem lBeg(s p:List UInt8)(k:Nat)(hk:k≤s.length)(hs:s.length≤65536)(hp:p.length≤65536):Qex s p k=some ((s.drop k).take p.length==p&&decide (p.length≤s.length-k)):=by
 have e:(s.take (s.length:Int).toNat).drop ((k:Int)).toNat=s.drop k:=by simp
 rw[Qex,decide_eq_true (by omega),if_pos rfl,decide_eq_true (by omega),if_pos rfl,Qku (by omega) (by omega) (by omega),Qac,e,Qgq,Qcg];by_cases h:p.length≤s.length-k
 ·rw[decide_eq_true (by rw[List.length_drop]; omega),if_pos rfl,Qku (by omega) (by omega) (by rw[List.length_drop]; omega),decide_eq_true h];simp
 ·rw[decide_eq_false (by rw[List.length_drop]; omega),if_neg (by decide),decide_eq_false h,Bool.and_false];rfl
theorem Qanm(a b:UInt8)(s:List UInt8)(k:Nat)(hk:k≤s.length)(hs:s.length≤65536):Qex s [a,b] k=some (two a b (s.drop k)):=by
 rw[lBeg s [a,b] k hk hs (by simp)];have hl:(s.drop k).length=s.length-k:=List.length_drop;generalize s.drop k=l at hl;rw[← hl]
 match l with
 | []=>rfl
 | [c]=>simp[two]
 | c::d::r =>
  congr 1;rw[decide_eq_true (by simp),Bool.and_true];show([c,d]==[a,b])=_;rw[List.cons_beq_cons,List.cons_beq_cons];show(c==a&&(d==b&&true))=_;rw[Bool.and_true]; rfl
theorem Qann(a:UInt8)(s:List UInt8)(k:Nat)(hk:k≤s.length)(hs:s.length≤65536):Qex s [a] k=some (oneB a (s.drop k)):=by
 rw[lBeg s [a] k hk hs (by simp)];have hl:(s.drop k).length=s.length-k:=List.length_drop;generalize s.drop k=l at hl;rw[← hl]
 match l with
 | []=>rfl
 | c::r =>
  congr 1;rw[decide_eq_true (by simp),Bool.and_true];show([c]==[a])=_;rw[List.cons_beq_cons];show(c==a&&true)=_;rw[Bool.and_true]; rfl
def escP(c:UInt8):Option UInt8:=if c=110 then some 10 else if c=116 then some 9 else if c=34∨c=92 then some c else none
abbrev badR(l:List UInt8):Prop:=(Qbp l).1=10∨(Qbp l).1=13∨((Qbp l).1=65533∧(Qbp l).2=1)
def escR(f:List UInt8→Option (List UInt8×Nat)):List UInt8→Option (List UInt8×Nat)
 | []=>none
 | d::r=>match escP d with
  | some e=>(f r).map fun q=>(e::q.1,q.2+2)
  | none=>none
def quoP:Nat→List UInt8→Option (List UInt8×Nat)
 | 0,_=>none
 | _+1,[]=>none
 | n+1,c::r =>
  if c=34 then some ([],1)
  else if c=92 then escR (quoP n) r
  else if badR (c::r) then none
  else(quoP n ((c::r).drop (Qbp (c::r)).2)).map fun q=>((c::r).take (Qbp (c::r)).2++q.1,(Qbp (c::r)).2+q.2)
theorem Qeb(n:Nat)(c:UInt8)(r:List UInt8):quoP (n+1) (c::r)=if c=34 then some ([],1) else if c=92 then escR (quoP n) r else if badR (c::r) then none
  else(quoP n ((c::r).drop (Qbp (c::r)).2)).map fun q=>((c::r).take (Qbp (c::r)).2++q.1,(Qbp (c::r)).2+q.2):=rfl
theorem Qwp:∀ (n:Nat) (l:List UInt8) (q:List UInt8×Nat),quoP n l=some q→1≤q.2∧q.2≤l.length∧q.1.length≤l.length
 | 0,l,q,h=>by simp[quoP] at h
 | n+1,[],q,h=>by simp[quoP] at h
 | n+1,c::r,q,h=>by
  rw[Qeb] at h;split at h
  ·cases h; simp
  ·split at h
   ·cases r with
    | nil=>cases h
    | cons d r' =>
     rw[escR] at h;split at h
     ·obtain⟨q', h1,rfl⟩:=Option.map_eq_some_iff.1 h;have:=Qwp n r' q' h1;simp only[List.length_cons] at this ⊢;omega
     ·cases h
   ·split at h
    ·cases h
    ·obtain⟨q', h1,rfl⟩:=Option.map_eq_some_iff.1 h;obtain⟨z1,z2⟩:=Qsi (c::r) (List.cons_ne_nil _ _);have:=Qwp n _ q' h1;rw[List.length_drop] at this;simp only[List.length_append,List.length_take];omega
theorem badT(l:List UInt8):(if((((Qbp l).1:Nat):Int)==10)=true then some true else if((((Qbp l).1:Nat):Int)==13)=true then some true else if((((Qbp l).1:Nat):Int)==65533)=true then some ((((Qbp l).2:Nat):Int)==1) else some false:Option Bool)=some (decide (badR l)):=by
 have h:=badI (Qbp l);rw[h];have a:=eqN (Qbp l).1 10;have b:=eqN (Qbp l).1 13;rw[show(10:Int)=((10:Nat):Int) from rfl,show(13:Int)=((13:Nat):Int) from rfl,a,b];unfold badR;by_cases h1:(Qbp l).1=10
 ·rw[beq_iff_eq.2 h1,if_pos rfl,decide_eq_true (.inl h1)]
 ·rw[beq_eq_false_iff_ne.2 h1,if_neg (by decide)];by_cases h2:(Qbp l).1=13
  ·rw[beq_iff_eq.2 h2,if_pos rfl,decide_eq_true (.inr (.inl h2))]
  ·rw[beq_eq_false_iff_ne.2 h2,if_neg (by decide)];by_cases h3:(Qbp l).1=65533∧(Qbp l).2=1
   ·rw[decide_eq_true h3,decide_eq_true (.inr (.inr h3))]
   ·rw[decide_eq_false h3,decide_eq_false (fun h=>by rcases h with h | h | h; exact h1 h; exact h2 h; exact h3 h)]
theorem cutN{s:List UInt8}{k m:Nat}(h:k+m≤s.length):cutL s k ((k+m:Nat):Int)=some ((s.drop k).take m):=by
 rw[Qku (by omega) (by omega) (by omega),Int.toNat_natCast,Int.toNat_natCast,List.drop_take,Nat.add_sub_cancel_left]
theorem r92(c:UInt8)(r:List UInt8):(((Qbp (c::r)).1:Nat):Int)==92↔c=92:=by
 rw[beq_iff_eq];constructor
 ·intro h;by_cases hc:c.toNat<128
  ·have e:Qbp (c::r)=(c.toNat,1):=by rw[Qbp]; unfold Qf5; rw[if_pos hc]
   rw[e] at h;exact UInt8.toNat_inj.1 (show c.toNat=92 from Int.ofNat.inj h)
  ·exfalso;by_cases hb:(Qf5 c r).1=65533∧(Qf5 c r).2=1
   ·have:(Qbp (c::r)).1=65533:=hb.1;omega
   ·obtain⟨w,rest,-,-,-,-,hv,-⟩:=Quo c r (by omega) hb;have:128≤(Qbp (c::r)).1:=hv;omega
 ·rintro rfl; rfl
theorem escL(c:UInt8):Qmj (c.toNat:Int)=some (match escP c with | some e=>((e.toNat:Int),true) | none=>((c.toNat:Int),false)):=by
 have a:((c.toNat:Int)==110)=decide (c=110):=eqC c 110 (by omega);have b:((c.toNat:Int)==116)=decide (c=116):=eqC c 116 (by omega);have d:((c.toNat:Int)==34)=decide (c=34):=eqC c 34 (by omega);have e:((c.toNat:Int)==92)=decide (c=92):=eqC c 92 (by omega);rw[Qmj,a,b,d,e];unfold escP;by_cases h1:c=110
 ·subst h1; rfl
 by_cases h2:c=116
 ·subst h2; rfl
 rw[decide_eq_false h1,decide_eq_false h2,if_neg h1,if_neg h2];by_cases h3:c=34
 ·subst h3; rfl
 by_cases h4:c=92
 ·subst h4; rfl
 rw[decide_eq_false h3,decide_eq_false h4,if_neg (show ¬ (c=34∨c=92) by rintro (h | h); exact h3 h; exact h4 h)];rfl
theorem Qano(s:List UInt8)(hs:s.length≤65536)(at0:Int)(toks:List Qaa)(fl:Bool):∀ (n k:Nat) (acc:List UInt8),k≤s.length→s.length-k<n→acc.length≤k →
  ∃ o,Qbu s at0 toks k fl (s2b acc)=some o∧(match quoP n (s.drop k) with
   | some q=>∃ f,o = .inl (((k+q.2-1:Nat):Int),f,s2b (acc++q.1))
   | none=>(∃ y,o = .inr y)∨∃ f b,o = .inl ((s.length:Int),f,b)):=by
 intro n
 induction n generalizing fl with
 | zero=>intro k acc h1 h2; omega
 | succ n ih =>
  intro k acc h1 h2 h3;rcases Nat.lt_or_ge k s.length with hk | hk
  ·have hne:s.drop k≠[]:=by rw[Qcj hk]; exact List.cons_ne_nil _ _
   obtain⟨z1,z2⟩:=Qsi _ hne;rw[List.length_drop] at z2;have e34:((s[k].toNat:Int) != 34) = !decide (s[k]=34):=by
    have:((s[k].toNat:Int)==34)=decide (s[k]=34):=eqC s[k] 34 (by omega);rw[bne,this]
   have ew:wr ((k:Int)+((Qbp (s.drop k)).2:Int))=((k+(Qbp (s.drop k)).2:Nat):Int):=by rw[Qd0 (by omega) (by omega)]; rfl
   have ew2:wr ((k:Int)+2)=((k+2:Nat):Int):=by rw[Qd0 (by omega) (by omega)]; rfl
   rw[Qbu,ltI,decide_eq_true hk,if_pos rfl,Qbr,getE hk,Qac,Qac,e34];by_cases h34:s[k]=34
   ·rw[decide_eq_true h34,Bool.not_true,if_neg (by decide)];refine⟨_,rfl,?_⟩;rw[Qcj hk,Qeb,if_pos h34];exact⟨fl,by simp⟩
   ·rw[decide_eq_false h34,Bool.not_false,if_pos rfl,Qani s k hk (by omega),Qac];have hr92:=r92 s[k] (s.drop (k+1));rw[← Qcj hk] at hr92;by_cases h92:s[k]=92
    ·rw[if_pos (hr92.2 h92),Qbn (by omega)];rcases Nat.lt_or_ge (k+1) s.length with hk1 | hk1
     ·have en:(((k+1:Nat):Int)==(s.length:Int))=false:=beq_eq_false_iff_ne.2 (by omega);have hd:s.drop k=92::s[k+1]::s.drop (k+2):=by rw[Qcj hk,Qcj hk1,h92]
      rw[en,if_neg (by decide),Qbr,getE hk1,Qac,escL,Qac,hd,Qeb,if_neg (show ¬ (92:UInt8)=34 by decide),if_pos rfl,escR];cases hE:escP s[k+1] with
      | none =>
       simp only[Bool.not_false,if_true];exact⟨_,rfl,.inl ⟨_,rfl⟩⟩
      | some e =>
       simp only[Bool.not_true,Bool.false_eq_true,if_false];have hwb:Qcb (e.toNat:Int) fl (s2b acc)=some ((),true,s2b (acc++[e])):=by
        rw[Qcb,Qbo,Qac,Qin (by rw[Qwn]; simp; omega) (by rw[Qwn]; simp; omega),Qac,Qafv];rfl
       rw[hwb,Qac,ew2];obtain⟨o,o1,o2⟩:=ih true (k+2) (acc++[e]) (by omega) (by omega) (by simp; omega);refine⟨o,o1,?_⟩;cases hq:quoP n (s.drop (k+2)) with
       | none=>rw[hq] at o2; exact o2
       | some q =>
        rw[hq] at o2;obtain⟨f,o2⟩:=o2;obtain⟨q1,-⟩:=Qwp n _ q hq;refine⟨f,?_⟩;rw[o2];simp only[Option.map_some,List.append_assoc,List.singleton_append];congr 3;omega
     ·have en:(((k+1:Nat):Int)==(s.length:Int))=true:=beq_iff_eq.2 (by omega);rw[en,if_pos rfl];refine⟨_,rfl,?_⟩;have hd:s.drop k=[92]:=by rw[Qcj hk,h92,List.drop_eq_nil_of_le (by omega)]
      rw[hd,Qeb,if_neg (show ¬ (92:UInt8)=34 by decide),if_pos rfl];exact .inl ⟨_,rfl⟩
    ·rw[if_neg (fun h=>h92 (hr92.1 h))];simp only;rw[badT (s.drop k),Qac];have hq:quoP (n+1) (s.drop k)=if badR (s.drop k) then none else(quoP n ((s.drop k).drop (Qbp (s.drop k)).2)).map fun q=>((s.drop k).take (Qbp (s.drop k)).2++q.1,(Qbp (s.drop k)).2+q.2):=by
      generalize hg:s.drop k=l;rw[Qcj hk] at hg;subst hg;rw[Qeb,if_neg h34,if_neg h92]
     rw[hq];by_cases hb:badR (s.drop k)
     ·rw[decide_eq_true hb,if_pos rfl,if_pos hb];exact⟨_,rfl,.inl ⟨_,rfl⟩⟩
     ·rw[decide_eq_false hb,if_neg (by decide),if_neg hb,ew,cutN (by omega),Qac];have hws:Qbx ((s.drop k).take (Qbp (s.drop k)).2) fl (s2b acc)=some (((((s.drop k).take (Qbp (s.drop k)).2).length:Nat):Int),(),true,s2b (acc++(s.drop k).take (Qbp (s.drop k)).2)):=by
       have hl:((s.drop k).take (Qbp (s.drop k)).2).length≤s.length-k:=by rw[List.length_take,List.length_drop]; omega
       rw[Qbx,Qbo,Qac,Qin (by rw[Qwn,Qwn]; omega) (by rw[Qwn,Qwn]; omega),Qac,Qafv]
      rw[hws,Qac,List.drop_drop];obtain⟨o,o1,o2⟩:=ih true (k+(Qbp (s.drop k)).2) (acc++(s.drop k).take (Qbp (s.drop k)).2) (by omega) (by omega) (by rw[List.length_append,List.length_take]; omega);refine⟨o,o1,?_⟩;cases hq:quoP n (s.drop (k+(Qbp (s.drop k)).2)) with
      | none=>rw[hq] at o2; exact o2
      | some q =>
       rw[hq] at o2;obtain⟨f,o2⟩:=o2;obtain⟨q1,-⟩:=Qwp n _ q hq;refine⟨f,?_⟩;rw[o2];simp only[List.append_assoc];congr 3;omega
  ·rw[Qbu,ltI,decide_eq_false (by omega),if_neg (by decide),Qac,if_neg (by decide),List.drop_eq_nil_of_le hk,quoP];refine⟨_,rfl,.inr ⟨fl,s2b acc,?_⟩⟩;have:k=s.length:=by omega
   rw[this]
theorem Qanp(s:List UInt8)(hs:s.length≤65536):∀ (n k:Nat) (acc:List UInt8),k≤s.length→s.length-k<n→acc.length≤k →
  ∃ o,Qcy s k acc=some o∧(match quoP n (s.drop k) with
   | some q=>o = .inr (acc++q.1,((k+q.2:Nat):Int))
   | none=>o = .inl ()∨o = .inr ([],-1)):=by
 intro n
 induction n with
 | zero=>intro k acc h1 h2; omega
 | succ n ih =>
  intro k acc h1 h2 h3;rcases Nat.lt_or_ge k s.length with hk | hk
  ·have hne:s.drop k≠[]:=by rw[Qcj hk]; exact List.cons_ne_nil _ _
   obtain⟨z1,z2⟩:=Qsi _ hne;rw[List.length_drop] at z2;have e34:((s[k].toNat:Int)==34)=decide (s[k]=34):=eqC s[k] 34 (by omega);have e92:((s[k].toNat:Int)==92)=decide (s[k]=92):=eqC s[k] 92 (by omega);have ew:wr ((k:Int)+((Qbp (s.drop k)).2:Int))=((k+(Qbp (s.drop k)).2:Nat):Int):=by rw[Qd0 (by omega) (by omega)]; rfl
   have ew2:wr ((k:Int)+2)=((k+2:Nat):Int):=by rw[Qd0 (by omega) (by omega)]; rfl
   rw[Qcy,ltI,decide_eq_true hk,if_pos rfl,Qbr,getE hk,Qac,e34];by_cases h34:s[k]=34
   ·rw[decide_eq_true h34,if_pos rfl,Qbn (by omega)];refine⟨_,rfl,?_⟩;rw[Qcj hk,Qeb,if_pos h34];simp
   ·rw[decide_eq_false h34,if_neg (by decide),Qac,e92];by_cases h92:s[k]=92
    ·rw[decide_eq_true h92,if_pos rfl,Qbn (by omega)];rcases Nat.lt_or_ge (k+1) s.length with hk1 | hk1
     ·have en:(((k+1:Nat):Int)==(s.length:Int))=false:=beq_eq_false_iff_ne.2 (by omega);have hd:s.drop k=92::s[k+1]::s.drop (k+2):=by rw[Qcj hk,Qcj hk1,h92]
      have a:((s[k+1].toNat:Int)==110)=decide (s[k+1]=110):=eqC _ 110 (by omega);have b:((s[k+1].toNat:Int)==116)=decide (s[k+1]=116):=eqC _ 116 (by omega);have d:((s[k+1].toNat:Int)==34)=decide (s[k+1]=34):=eqC _ 34 (by omega);have e:((s[k+1].toNat:Int)==92)=decide (s[k+1]=92):=eqC _ 92 (by omega);rw[en,if_neg (by decide),Qbr,getE hk1,Qac,Qac,a,b,d,e,ew2,hd,Qeb,if_neg (show ¬ (92:UInt8)=34 by decide),if_pos rfl];have step:∀ (x:UInt8),escP s[k+1]=some x→(∃ o,Qcy s ((k+2:Nat):Int) (acc++[x])=some o∧(match escR (quoP n) (s[k+1]::s.drop (k+2)) with
        | some q=>o = .inr (acc++q.1,((k+q.2:Nat):Int))
        | none=>o = .inl ()∨o = .inr ([],-1))):=fun x hx=>by
       obtain⟨o,o1,o2⟩:=ih (k+2) (acc++[x]) (by omega) (by omega) (by simp; omega);refine⟨o,o1,?_⟩;rw[escR,hx];simp only;cases hq:quoP n (s.drop (k+2)) with
       | none=>rw[hq] at o2; exact o2
       | some q =>
        rw[hq] at o2;simp only[Option.map_some];rw[o2,List.append_assoc,List.singleton_append];congr 3;omega
      by_cases c1:s[k+1]=110
      ·rw[decide_eq_true c1,if_pos rfl,Qa2 (by simp; omega),Qac];exact step 10 (by unfold escP; rw[if_pos c1])
      by_cases c2:s[k+1]=116
      ·rw[decide_eq_false c1,if_neg (by decide),decide_eq_true c2,if_pos rfl,Qa2 (by simp; omega),Qac];exact step 9 (by unfold escP; rw[if_neg c1,if_pos c2])
      rw[decide_eq_false c1,if_neg (by decide),decide_eq_false c2,if_neg (by decide)];have e12:((k+2:Nat):Int)=((k+1+1:Nat):Int):=rfl;have hc:cutL s ((k+1:Nat):Int) ((k+2:Nat):Int)=some [s[k+1]]:=by
       rw[e12,cutN (by omega),Qcj hk1]; rfl
      by_cases c3:s[k+1]=34∨s[k+1]=92
      ·have:(if decide (s[k+1]=34)=true then some true else some (decide (s[k+1]=92)):Option Bool)=some true:=by
        rcases c3 with c3 | c3
        ·rw[decide_eq_true c3,if_pos rfl]
        ·rw[decide_eq_true c3]; split<;>rfl
       rw[this,Qac,if_pos rfl,hc,Qac,Qa2 (by simp; omega),Qac];exact step s[k+1] (by unfold escP; rw[if_neg c1,if_neg c2,if_pos c3])
      ·have:(if decide (s[k+1]=34)=true then some true else some (decide (s[k+1]=92)):Option Bool)=some false:=by
        rw[decide_eq_false (fun h=>c3 (.inl h)),if_neg (by decide),decide_eq_false (fun h=>c3 (.inr h))]
       have hE:escP s[k+1]=none:=by unfold escP; rw[if_neg c1,if_neg c2,if_neg c3]
       rw[this,Qac,if_neg (by decide),escR,hE];exact⟨_,rfl,.inr rfl⟩
     ·have en:(((k+1:Nat):Int)==(s.length:Int))=true:=beq_iff_eq.2 (by omega);rw[en,if_pos rfl];refine⟨_,rfl,?_⟩;have hd:s.drop k=[92]:=by rw[Qcj hk,h92,List.drop_eq_nil_of_le (by omega)]
      rw[hd,Qeb,if_neg (show ¬ (92:UInt8)=34 by decide),if_pos rfl];exact .inr rfl
    ·rw[decide_eq_false h92,if_neg (by decide),Qal8 s k hk (by omega),Qac];simp only;rw[badT (s.drop k),Qac];have hq:quoP (n+1) (s.drop k)=if badR (s.drop k) then none else(quoP n ((s.drop k).drop (Qbp (s.drop k)).2)).map fun q=>((s.drop k).take (Qbp (s.drop k)).2++q.1,(Qbp (s.drop k)).2+q.2):=by
      generalize hg:s.drop k=l;rw[Qcj hk] at hg;subst hg;rw[Qeb,if_neg h34,if_neg h92]
     rw[hq];by_cases hb:badR (s.drop k)
     ·rw[decide_eq_true hb,if_pos rfl,if_pos hb];exact⟨_,rfl,.inr rfl⟩
     ·rw[decide_eq_false hb,if_neg (by decide),if_neg hb,ew,cutN (by omega),Qac,Qa2 (by rw[List.length_take,List.length_drop]; omega),Qac,List.drop_drop];obtain⟨o,o1,o2⟩:=ih (k+(Qbp (s.drop k)).2) (acc++(s.drop k).take (Qbp (s.drop k)).2) (by omega) (by omega) (by rw[List.length_append,List.length_take]; omega);refine⟨o,o1,?_⟩;cases hq:quoP n (s.drop (k+(Qbp (s.drop k)).2)) with
      | none=>rw[hq] at o2; exact o2
      | some q =>
       rw[hq] at o2;simp only[Option.map_some];rw[o2,List.append_assoc,Nat.add_assoc]
  ·rw[Qcy,ltI,decide_eq_false (by omega),if_neg (by decide),List.drop_eq_nil_of_le hk,quoP];exact⟨_,rfl,.inl rfl⟩
end Go.Proofs.YtagokkpnfceidaaGreatDoor
end
