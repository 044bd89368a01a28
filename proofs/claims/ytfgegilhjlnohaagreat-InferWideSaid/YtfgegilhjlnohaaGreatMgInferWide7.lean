/- Part 7 of 12. -/
import Derived.Test.YtfgegilhjlnohaaGreatMgInferWide6
import Derived.Shelf.Slices.Delete
import Derived.Lib.Strings
import Derived.Below
import Derived.Laws.Bits
import Derived.Deep.DeepCutAuto
import Derived.Deep.CutRange

noncomputable section
namespace Go.Proofs.YtfgegilhjlnohaaGreat
open Go.RowKit
set_option linter.unusedSimpArgs false
set_option linter.unusedVariables false
def mget{κ α : Type}(eqb : κ -> κ -> Bool)(k : κ):List (κ × α)->Option α
 | []=>none
 | p::r=>if eqb k p.1 then some p.2 else mget eqb k r
def mset{κ α : Type}(eqb : κ -> κ -> Bool)(k : κ)(x : α):List (κ × α)->List (κ × α)
 | []=>[(k,x)]
 | p::r=>if eqb k p.1 then(k,x)::r else p::mset eqb k x r
abbrev mpR{κ α : Type}(ck : κ -> V)(ca : α -> V)(l:List (κ × α)):List (List V):=l.map λp=>[ck p.1,ca p.2]
abbrev mpD{κ α : Type}(ck : κ -> V)(ca : α -> V)(l:List (κ × α)):D :=.tup [.p (.sl false (mpR ck ca l))]
theorem Q6z{κ α : Type}{eq:V->V->Option Bool}{eqb : κ -> κ -> Bool}{ck : κ -> V}{ca : α -> V}(heq:∀ a b,eq (ck a) (ck b)=some (eqb a b))(k : κ):∀ l:List (κ × α),Qxs eq (ck k) (mpR ck ca l)=some ((mget eqb k l).map ca)
 | []=>rfl
 | p::r=>by
  have ih:=Q6z (ca:=ca) heq k r;show Qxs eq (ck k) ([ck p.1,ca p.2]::mpR ck ca r)=_;rw[Qxs,heq,mget];cases eqb k p.1 with
  | true=>rfl
  | false=>exact ih
theorem Qabb{κ α : Type}{eq:V->V->Option Bool}{eqb : κ -> κ -> Bool}{ck : κ -> V}{ca : α -> V}(heq:∀ a b,eq (ck a) (ck b)=some (eqb a b))(k : κ)(x : α):∀ l:List (κ × α),mSet eq (ck k) (ca x) (mpR ck ca l)=some (mpR ck ca (mset eqb k x l))
 | []=>rfl
 | p::r=>by
  have ih:=Qabb (ca:=ca) heq k x r;show mSet eq (ck k) (ca x) ([ck p.1,ca p.2]::mpR ck ca r)=_;rw[mSet,heq,mset];cases eqb k p.1 with
  | true=>rfl
  | false =>
   show(mSet eq (ck k) (ca x) (mpR ck ca r)).map ([ck p.1,ca p.2] :: ·)=_;rw[ih]; rfl
theorem Qsl{κ α : Type}{l:List (κ × α)}{k : κ}(eqb : κ -> κ -> Bool){ck : κ -> V}{ca : α -> V}{z0 : α}{zv:Value}{z kx:V}{hp:Option (List D)}{eq:V->V->Option Bool}{ko:Bool}{K:V->Bool->Prop}
  (hko:ko=true) (hh:hp=some [mpD ck ca l]) (hkx:kx=ck k) (heq:∀ a b,eq (ck a) (ck b)=some (eqb a b)) (hz:absV zv=some z) (hle:LeV z (ca z0)) (h:K (ca ((mget eqb k l).getD z0)) (mget eqb k l).isSome) :
  ko=true/\∃ fl ms r z v b,hp=some [.tup [.p (.sl fl ms)]]/\Qxs eq kx ms=some r/\absV zv=some z/\LeV (r.getD z) v/\b=r.isSome/\K v b:=by
 subst hkx;refine⟨hko,false,_,_,z,ca ((mget eqb k l).getD z0),(mget eqb k l).isSome,hh,Q6z heq k l,hz,?_,?_,h⟩
 .cases mget eqb k l with
  | none=>exact hle
  | some x=>exact .refl _
 .cases mget eqb k l<;>rfl
theorem Qabc{κ α : Type}{l:List (κ × α)}{k : κ}{x : α}(eqb : κ -> κ -> Bool){ck : κ -> V}{ca : α -> V}{kx vx:V}{hp:Option (List D)}{eq:V->V->Option Bool}{ko:Bool}{K:Bool->List (List V)->Prop}
  (hko:ko=true) (hh:hp=some [mpD ck ca l]) (hkx:kx=ck k) (hvx:LeV vx (ca x)) (heq:∀ a b,eq (ck a) (ck b)=some (eqb a b)) (h:K false (mpR ck ca (mset eqb k x l))) :
  ko=true/\∃ fl ms ms' v,hp=some [.tup [.p (.sl fl ms)]]/\LeV vx v/\mSet eq kx v ms=some ms' /\ K fl ms' := by
 subst hkx;exact⟨hko,false,_,_,ca x,hh,hvx,Qabb heq k x l,h⟩
end Go.Proofs.YtfgegilhjlnohaaGreat
end
noncomputable section
namespace Go.Proofs.YtfgegilhjlnohaaGreat
open Go.RowKit Go.Sort Go.Shelf
def srtL (ss:List (List UInt8)):List (List UInt8):=ss.mergeSort λx y=>decide (x<=y)
theorem Qah6{ss:List (List UInt8)}(h:ss.length<4611686018427387904):FnT Tryz.prog 48 #[] false ss (srtL ss):=Qai6 Tryz.lays190 (by kernel_rfl) ss h
theorem Qaey{ss:List (List UInt8)}(h:ss.length<4611686018427387904):FnT Tryz.prog 100 #[] true ss (Lib.compact ss):=Qacp Tryz.lays194 (by kernel_rfl) ss h
end Go.Proofs.YtfgegilhjlnohaaGreat
end

noncomputable section
namespace Go.Proofs.YtfgegilhjlnohaaGreat
open Go.RowKit
set_option linter.unusedSimpArgs false
set_option linter.unusedVariables false
def digs(m:Nat):List UInt8 :=
 if m<10 then [UInt8.ofNat (48+m)] else digs (m / 10)++[UInt8.ofNat (48+m % 10)]
termination_by m
decreasing_by omega
theorem Q9h(m:Nat)(h:m<10):digs m=[UInt8.ofNat (48+m)]:=by rw[digs,if_pos h]
theorem Qaez(m:Nat)(h:10<=m):digs m=digs (m / 10)++[UInt8.ofNat (48+m % 10)]:=by rw[digs,if_neg (by omega)]
theorem Qabd(m:Nat):∀ k,m<10 ^ (k+1)->(digs m).length<=k+1:=by
 intro k
 induction k generalizing m with
 | zero=>intro h; rw[Q9h m (by simpa using h)]; simp
 | succ k ih =>
  intro h;by_cases h10:m<10
  .rw[Q9h m h10]; simp
  .rw[Qaez m (by omega)];have:=ih (m / 10) (by rw[Nat.pow_succ] at h; omega);simp; omega
def Qu6(n:Int):List UInt8:=if n<0 then 45::digs n.natAbs else digs n.natAbs
def isD(c:UInt8):Bool:=48<=c.toNat&&c.toNat<=57
def dv(c:UInt8):Nat:=c.toNat-48
def val(l:List UInt8):Nat:=l.foldl (λu c=>u*10+dv c) 0
theorem Qahe(u:Nat):(((UInt8.ofNat (48+u % 10)).toNat:Nat):Int)=48+(u:Int) % 10:=by
 simp; omega
theorem Qak6 {P : Program} (src dst e : TypeId) (hs : P.underlying src = some (.slice e)) (he : P.underlying e = some (.int .u8)) (hd : P.underlying dst = some .string)
   (x : Int) (y : UInt8) (hxy : x = y.toNat) (b c : Nat) (W : World) (h0 : W.cell? ⟨b, 0, none⟩ = some (.int .u8 x)) :
   (convert src dst (.slice (some ⟨b, 0, none⟩) 1 c)).run P W = .ok (.string ⟨#[y]⟩) W := by
  subst hxy
  have := run_convert_bytes_back (P := P) W src dst e ⟨b, 0, none⟩ c [y] hs he hd (by
    intro j hj
    have hj2 : j = 0 := by simp at hj; omega
    subst hj2
    simpa [Addr.add] using h0)
  exact this
theorem Qae0(a b:List UInt8):(⟨a.toArray⟩:ByteArray)++(⟨b.toArray⟩:ByteArray)=⟨(a++b).toArray⟩:=by
 rw[<-Lib.mk_data (_++_)]; simp
set_option maxHeartbeats 800000 in
theorem Q14(m:Nat)(h:m<18446744073709551616)(w:World) :
  Calls Tryz.prog 182 #[.int .u64 m] w λe w' => e = .returned (.string ⟨(digs m).toArray⟩)/\Below w.heap.size w w' := by
 go_enter Tryz.func182,Tryz.ntmps182
 go_wp2
 go_loopw [0,3] (λn s wr=>∃ (u:Nat) (suf:List UInt8),u<18446744073709551616/\n = .int .u64 u/\s = .string ⟨suf.toArray⟩/\digs m=digs u++suf/\Below w.heap.size w wr) (λn _ _=>(intOf n).toNat)
 case atStart=>exact⟨m,[],h,rfl,rfl,by simp,Below.refl _ _⟩
 case round =>
  obtain⟨u,suf,hu,rfl,rfl,hd,hb⟩:=hrel;have hsl:suf.length<=20:=by
   have e:=congrArg List.length hd;have:=Qabd m 19 (by omega);simp at e; omega
  have HD:=Lib.hid hd; clear hd;have HB:=Lib.hid hb; clear hb;by_cases hlt:9<u
  .have kc:=Qak6 (P:=Tryz.prog) 57 9 5 Tryz.underlying57 Tryz.underlying5 Tryz.underlying9 (48+(u:Int) % 10) (UInt8.ofNat (48+u % 10)) (Qahe u).symm
   go_wp2
   go_roundw
   case rel=>exact⟨u / 10,(48+UInt8.ofNat (u % 10))::suf,by omega,by simp,congrArg Value.string (Qae0 [_] suf),by rw[HD.out,Qaez u (by omega)]; simp,HB.out.trans ((Below.refl _ _).alloc HB.out.size _)⟩
   case measure=>simp[intOf]; omega
  .have kc:=Qak6 (P:=Tryz.prog) 57 9 5 Tryz.underlying57 Tryz.underlying5 Tryz.underlying9 (48+(u:Int)) (UInt8.ofNat (48+u)) (by simp; omega)
   go_wp2
   go_ret
   refine⟨Qaen ?_,HB.out.trans ((Below.refl _ _).alloc HB.out.size _)⟩;rw[HD.out,Q9h u (by omega)];rw[show UInt8.ofNat (48+u)=48+UInt8.ofNat u from by simp];exact Qae0 [_] suf
set_option maxHeartbeats 800000 in
theorem Qtp(n:Int)(h0 : -9223372036854775808<=n)(h1:n<=9223372036854775807)(w:World) :
  Calls Tryz.prog 172 #[.int .i64 n] w λe w' => e = .returned (.string ⟨(Qu6 n).toArray⟩)/\Below w.heap.size w w' := by
 rcases Int.lt_or_le n 0 with hn | hn
 .obtain⟨m,rfl⟩:∃ m:Nat,n = -((m:Int)+1):=⟨(-n-1).toNat,by omega⟩;have ht:Qu6 (-((m:Int)+1))=45::digs (m+1):=by
   rw[Qu6,if_pos hn]; congr 2
  have hdg:=λw=>Q14 (m+1) (by omega) w
  have hl:(digs (m+1)).length<=20:=Qabd _ 19 (by omega);rw[ht]; clear ht;generalize digs (m+1)=D at hdg hl;have HG:=Lib.hid hdg; clear hdg
  go_enter Tryz.func172,Tryz.ntmps172
  go_wp2_with fail
  rw[show -(-((m:Int)+1)+1)+1=((m+1:Nat):Int) from by omega];refine(HG.out _).mono ?_;rintro e w' ⟨rfl,hb⟩
  go_wp2_with fail
  go_ret
  exact⟨Qaen (Qae0 [45] _),hb⟩
 .obtain⟨m,rfl⟩:=Int.eq_ofNat_of_zero_le hn;have ht:Qu6 (m:Int)=digs m:=by
   rw[Qu6,if_neg (by omega),Int.natAbs_natCast]
  rw[ht]; clear ht;have hdg:=λw=>Q14 m (by omega) w
  generalize digs m=D at hdg;have HG:=Lib.hid hdg; clear hdg
  go_enter Tryz.func172,Tryz.ntmps172
  go_wp2_with fail
  refine(HG.out _).mono ?_;rintro e w' ⟨rfl,hb⟩
  go_wp2_with fail
  go_ret
  exact⟨rfl,hb⟩
def Qv8(neg:Bool)(n:Int)(c:UInt8):Int:=if neg then wrap64 (wrap64 (10*n)-((c.toNat:Int)-48)) else wrap64 (wrap64 (10*n)+((c.toNat:Int)-48))
def Qyb(l:List UInt8):Int×Bool :=
 if l.length<1\/20<l.length then(0,false)
 else
  let neg:=l.head? == some 45
  let rest:=if neg then l.tail else l
  if rest.all isD then
   let n:=rest.foldl (Qv8 neg) 0
   if Qu6 n=l then(n,true) else(0,false)
  else(0,false)
theorem Q15(n:Int) : -9223372036854775808<=wrap64 n/\wrap64 n<=9223372036854775807:=by
 simp[wrap64]; omega
theorem Qah7(rs:ByteArray)(k:Nat)(h:k<rs.size):(rs.data.toList.drop k).all isD=(isD rs[k]&&(rs.data.toList.drop (k+1)).all isD):=by
 have h' : k<rs.data.toList.length:=by rw[<-Ql8]; exact h
 rw[List.drop_eq_getElem_cons h']; rfl
theorem Qae1(neg:Bool)(rs:ByteArray)(k:Nat)(h:k<rs.size)(n:Int):(rs.data.toList.drop k).foldl (Qv8 neg) n=(rs.data.toList.drop (k+1)).foldl (Qv8 neg) (Qv8 neg n rs[k]):=by
 have h' : k<rs.data.toList.length:=by rw[<-Ql8]; exact h
 rw[List.drop_eq_getElem_cons h']; rfl
theorem Q3h(c:UInt8):isD c=decide ((48:Int)<=(c.toNat:Int)/\(c.toNat:Int)<=57):=by
 rw[Bool.eq_iff_iff]; simp[isD]; omega
set_option maxHeartbeats 4000000 in
theorem Q9i(s:ByteArray)(hs:s.size<=maxLen)(w:World) :
  Calls Tryz.prog 160 #[.string s] w λe w' => e = .returned (.tuple #[.int .i64 (Qyb s.data.toList).1,.bool (Qyb s.data.toList).2])/\Below w.heap.size w w' := by
 unfold maxLen at hs;by_cases hlen:s.data.toList.length<1\/20<s.data.toList.length
 .have hr:Qyb s.data.toList=(0,false):=by rw[Qyb,if_pos hlen]
  rw[hr]; clear hr;rw[<-Ql8] at hlen
  go_enter Tryz.func160,Tryz.ntmps160
  go_wp2_with fail
  all_goals (go_ret2; exact⟨rfl,Below.refl _ _⟩)
 .have hl1:0<s.size:=by rw[Ql8]; omega
  have hl2:s.size<=20:=by rw[Ql8]; omega
  have hneg:(s.data.toList.head? == some 45)=decide ((s[0].toNat:Int)=45):=by
   rw[Q6t];cases hl:s.data.toList with
   | nil=>rw[Ql8,hl] at hl1; simp at hl1
   | cons a t=>rw[Bool.eq_iff_iff]; simp[<-UInt8.toNat_inj]; omega
  have hr:Qyb s.data.toList=(if(if(s.data.toList.head? == some 45) then s.data.toList.tail else s.data.toList).all isD then
   (if Qu6 ((if(s.data.toList.head? == some 45) then s.data.toList.tail else s.data.toList).foldl (Qv8 (s.data.toList.head? == some 45)) 0)=s.data.toList then((if(s.data.toList.head? == some 45) then s.data.toList.tail else s.data.toList).foldl (Qv8 (s.data.toList.head? == some 45)) 0,true) else(0,false)) else(0,false)):=by
   rw[Qyb,if_neg hlen]
  rw[hneg] at hr;by_cases h45:(s[0].toNat:Int)=45
  .rw[decide_eq_true h45] at hr;simp only[↓reduceIte,<-List.drop_one] at hr;have HR:=Lib.hid hr; clear hr;clear hneg hlen
   go_enter Tryz.func160,Tryz.ntmps160
   go_wp2_with fail
   go_loop [5,6] (λn i=>∃ (k:Nat) (m:Int),k<=s.size/\i = .int .i64 k/\n = .int .i64 m /\ -9223372036854775808<=m/\m<=9223372036854775807/\(s.data.toList.drop 1).all isD=(s.data.toList.drop k).all isD/\(s.data.toList.drop 1).foldl (Qv8 true) 0=(s.data.toList.drop k).foldl (Qv8 true) m) (λ_ i=>s.size-(intOf i).toNat)
   case atStart=>exact⟨1,0,by omega,rfl,rfl,by omega,by omega,rfl,rfl⟩
   case round =>
    obtain⟨k,m,hk,rfl,rfl,hm0,hm1,hal,hfo⟩:=hrel;have HA:=Lib.hid hal; clear hal;have HF:=Lib.hid hfo; clear hfo;by_cases hlt:k<s.size
    .have HS1:=Lib.hid (Qah7 s k hlt);have HS2:=Lib.hid (Qae1 true s k hlt m);have hwr:=Q15 (wrap64 (10*m)-((s[k].toNat:Int)-48));have HW:=Lib.hid hwr; clear hwr;generalize hck:s[k]=c at HS1 HS2 HW;have hck2:s[k]=c:=hck;clear hck;by_cases hd:(48:Int)<=(c.toNat:Int)/\(c.toNat:Int)<=57
     .obtain⟨g1,g2⟩:=hd
      go_wp2
      go_round
      case rel=>exact⟨k+1,_,by omega,by go_num,rfl,HW.out.1,HW.out.2,by rw[HA.out,HS1.out,Q3h,decide_eq_true ⟨g1,g2⟩]; rfl,by rw[HF.out,HS2.out]; rfl⟩
      case measure=>simp[intOf]; omega
     .have hbad:(s.data.toList.drop 1).all isD=false:=by
       rw[HA.out,HS1.out,Q3h,decide_eq_false hd]; rfl
      have HB:=Lib.hid hbad; clear hbad
      go_wp2
      all_goals
       go_ret2
       exact⟨Q12 (by rw[HR.out,HB.out]; rfl) (by rw[HR.out,HB.out]; rfl),Below.refl _ _⟩
    .have hge:s.size<=k:=by omega
     have hz:s.data.toList.drop k=[]:=List.drop_of_length_le (by rw[<-Ql8]; exact hge);have hall:(s.data.toList.drop 1).all isD=true:=by rw[HA.out,hz]; rfl
     have hfin:(s.data.toList.drop 1).foldl (Qv8 true) 0=m:=by rw[HF.out,hz]; rfl
     clear hz;have HB:=Lib.hid hall; clear hall;have HC:=Lib.hid hfin; clear hfin;by_cases hq:Qu6 m=s.data.toList
     .have hqb:(Qu6 m==s.toList)=true:=by rw[Lib.toList_data]; simpa using hq
      have HQ:=Lib.hid hq; clear hq
      go_wp2_with fail
      refine(Qtp m hm0 hm1 _).mono ?_;rintro e w' ⟨rfl,hb⟩
      go_wp2_with fail
      go_ret2
      exact⟨Q12 (by rw[HR.out,HB.out,HC.out,if_pos HQ.out]; rfl) (by rw[HR.out,HB.out,HC.out,if_pos HQ.out]; rfl),hb⟩
     .have hqb:(Qu6 m==s.toList)=false:=by rw[Lib.toList_data]; simpa using hq
      have HQ:=Lib.hid hq; clear hq
      go_wp2_with fail
      refine(Qtp m hm0 hm1 _).mono ?_;rintro e w' ⟨rfl,hb⟩
      go_wp2_with fail
      go_ret2
      exact⟨Q12 (by rw[HR.out,HB.out,HC.out,if_neg HQ.out]; rfl) (by rw[HR.out,HB.out,HC.out,if_neg HQ.out]; rfl),hb⟩
  .rw[decide_eq_false h45] at hr;simp only[Bool.false_eq_true,↓reduceIte] at hr;have HR:=Lib.hid hr; clear hr;have hb45:((s[0].toNat:Int)==45)=false:=by simpa using h45
   clear hneg hlen
   go_enter Tryz.func160,Tryz.ntmps160
   go_wp2_with fail
   go_loop [5,6] (λn i=>∃ (k:Nat) (m:Int),k<=s.size/\i = .int .i64 k/\n = .int .i64 m /\ -9223372036854775808<=m/\m<=9223372036854775807/\s.data.toList.all isD=(s.data.toList.drop k).all isD/\s.data.toList.foldl (Qv8 false) 0=(s.data.toList.drop k).foldl (Qv8 false) m) (λ_ i=>s.size-(intOf i).toNat)
   case atStart=>exact⟨0,0,by omega,rfl,rfl,by omega,by omega,rfl,rfl⟩
   case round =>
    obtain⟨k,m,hk,rfl,rfl,hm0,hm1,hal,hfo⟩:=hrel;have HA:=Lib.hid hal; clear hal;have HF:=Lib.hid hfo; clear hfo;by_cases hlt:k<s.size
    .have HS1:=Lib.hid (Qah7 s k hlt);have HS2:=Lib.hid (Qae1 false s k hlt m);have hwr:=Q15 (wrap64 (10*m)+((s[k].toNat:Int)-48));have HW:=Lib.hid hwr; clear hwr;generalize hck:s[k]=c at HS1 HS2 HW;have hck2:s[k]=c:=hck;clear hck;by_cases hd:(48:Int)<=(c.toNat:Int)/\(c.toNat:Int)<=57
     .obtain⟨g1,g2⟩:=hd
      go_wp2
      go_round
      case rel=>exact⟨k+1,_,by omega,by go_num,rfl,HW.out.1,HW.out.2,by rw[HA.out,HS1.out,Q3h,decide_eq_true ⟨g1,g2⟩]; rfl,by rw[HF.out,HS2.out]; rfl⟩
      case measure=>simp[intOf]; omega
     .have hbad:s.data.toList.all isD=false:=by
       rw[HA.out,HS1.out,Q3h,decide_eq_false hd]; rfl
      have HB:=Lib.hid hbad; clear hbad
      go_wp2
      all_goals
       go_ret2
       exact⟨Q12 (by rw[HR.out,HB.out]; rfl) (by rw[HR.out,HB.out]; rfl),Below.refl _ _⟩
    .have hge:s.size<=k:=by omega
     have hz:s.data.toList.drop k=[]:=List.drop_of_length_le (by rw[<-Ql8]; exact hge);have hall:s.data.toList.all isD=true:=by rw[HA.out,hz]; rfl
     have hfin:s.data.toList.foldl (Qv8 false) 0=m:=by rw[HF.out,hz]; rfl
     clear hz;have HB:=Lib.hid hall; clear hall;have HC:=Lib.hid hfin; clear hfin;by_cases hq:Qu6 m=s.data.toList
     .have hqb:(Qu6 m==s.toList)=true:=by rw[Lib.toList_data]; simpa using hq
      have HQ:=Lib.hid hq; clear hq
      go_wp2_with fail
      refine(Qtp m hm0 hm1 _).mono ?_;rintro e w' ⟨rfl,hb⟩
      go_wp2_with fail
      go_ret2
      exact⟨Q12 (by rw[HR.out,HB.out,HC.out,if_pos HQ.out]; rfl) (by rw[HR.out,HB.out,HC.out,if_pos HQ.out]; rfl),hb⟩
     .have hqb:(Qu6 m==s.toList)=false:=by rw[Lib.toList_data]; simpa using hq
      have HQ:=Lib.hid hq; clear hq
      go_wp2_with fail
      refine(Qtp m hm0 hm1 _).mono ?_;rintro e w' ⟨rfl,hb⟩
      go_wp2_with fail
      go_ret2
      exact⟨Q12 (by rw[HR.out,HB.out,HC.out,if_neg HQ.out]; rfl) (by rw[HR.out,HB.out,HC.out,if_neg HQ.out]; rfl),hb⟩
theorem Qacq(l:List UInt8)(hl:l.length<=9223372036854775807):PCall Tryz.prog 160 [sV l] (.tup [.p (iV (Qyb l).1),.p (bV (Qyb l).2)]):=by
 refine PCall.ofCallsG (R :=.tuple #[.int .i64 (Qyb l).1,.bool (Qyb l).2]) (by kernel_rfl) (λ_ _=>Qam5 rfl rfl) λw us _ hs h=>?_
 obtain⟨a,rfl⟩:=us1 hs;obtain⟨_,h0'⟩:=h 0 _ a rfl rfl;rw[Qto h0'];refine(Q9i ⟨l.toArray⟩ (by show l.toArray.size<=9223372036854775807; simpa using hl) w).mono λe w' h=>?_
 first | exact h | exact⟨h.1,Qu5 h.2⟩
end Go.Proofs.YtfgegilhjlnohaaGreat
end
