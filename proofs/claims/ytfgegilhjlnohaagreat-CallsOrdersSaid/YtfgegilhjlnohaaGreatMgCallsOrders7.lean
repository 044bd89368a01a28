/- The proof's texts, part 7 of 11: the walks by a logic in which data are by value, the plain laws, and at the end the law, for every input. -/
import Derived.Test.YtfgegilhjlnohaaGreatMgCallsOrders6
import Derived.Shelf.RegionOpenPlain
import Derived.Lib.Strings
import Derived.Lib.Walk
import Derived.Lib.Builder
import Derived.Lib.UnsafeStr
import Derived.Laws.Externs
import Derived.Shelf.Small.Strs
import Derived.Shelf.Strings.Search1
import Derived.Shelf.Strings.Search2
import Derived.Shelf.Strings.Search3
import Derived.Shelf.LaysM
import Derived.Shelf.Strings.Shaped
import Derived.Shelf.Strings.Prefix
import Derived.Shelf.Slices.CompactS
import Derived.Ground.Names2Prog
import Derived.Shelf.Slices.Delete
import Derived.Shelf.Slices.In.SortNone
import Derived.Test.YtfgegilhjlnohaaGreatProg
import Derived.Shelf.Slices.In.SortAlone
import Derived.Shelf.Slices.In.CompactS
import Derived.Sort.EveryDepth
import Derived.Below
import Derived.Laws.Bits
import Derived.Deep.DeepCutAuto
import Derived.Deep.CutRange

section
namespace Go.Proofs.YtfgegilhjlnohaaGreat
open Go.RowKit
def csize:Code→Nat
 | .seq a b=>csize a+csize b+1
 | .cond _ a b=>csize a+csize b+1
 | .block _ b=>csize b+1
 | .loop b=>csize b+1
 | .rangeFunc _ _ a b=>csize a+csize b+1
 | _=>1
def skey:Code→Nat
 | .region id _ _=>3000000+id
 | x=>2000000+1000*firstReg x+csize x
def loopsOf:Code→List Code
 | .seq a b=>loopsOf a++loopsOf b
 | .cond _ a b=>loopsOf a++loopsOf b
 | .block _ b=>loopsOf b
 | .loop b=>b::loopsOf b
 | .rangeFunc g ps a b =>.rangeFunc g ps a b::(loopsOf a++loopsOf b)
 | .scope b=>loopsOf b
 | _=>[]
section
variable {P:Program} {tb:Tbl}
def baseOf (o:Option (List Nat)) (n:Nat):Nat:=match o with
 | some [b]=>if b≤n then b else n
 | _=>n
theorem Q1s (o:Option (List Nat)) (n:Nat):baseOf o n≤n:=by
 unfold baseOf
 split
 ·split
  ·assumption
  ·exact Nat.le_refl _
 ·exact Nat.le_refl _
def rwp (P : Program) (tb : Tbl) (N : Nat) (lv : List (Nat × List Nat)) (id : Nat) (ops : Array Oper) (dr : Bool) (Q : St → Prop) (σ : St) : Prop := force σ fun σ => match dr with
    | false => match lv.lookup (9000000 + id) with
      | none => bOps true P tb N ops.toList (List.range ops.toList.length) σ fun σ' => Q (keep (lv.lookup id) σ')
      | some mk => xOps mk P tb N ops.toList (List.range ops.toList.length) σ fun σ' => Q (keep (lv.lookup id) σ')
    | true => match lv.lookup (9400000 + id) with
     | some _ => ∃ (t : PT) (τ : St), ptAll ops true t (Array.replicate ops.size false) ops.size = true ∧ allT P tb N ops.toList (fun σ' => keep (lv.lookup id) σ' = τ) true t σ ∧ Q τ
     | none => match lv.lookup (9800000 + id) with
     | some [j] => tailSeq ops.toList j = true ∧ lexOkP ((lv.lookup (5000000 + id)).getD []) ops.toList j = true ∧ (lv.lookup (7000000 + id)).isSome = true ∧ dOps (baseOf (lv.lookup (8000000 + id)) σ.s.heap.length) ((lv.lookup (5000000 + id)).getD []) P tb N ops.toList (List.range j) σ fun σ' =>
        xOps ((lv.lookup (9000000 + id)).getD []) P tb N ops.toList (List.range' j (ops.toList.length - j)) (keep (lv.lookup (7000000 + id)) σ') fun σ2 => Q (keep (lv.lookup id) σ2)
     | _ => match lv.lookup (6000000 + id) with
      | some [j] => tailOk ops.toList j = true ∧ lexOkP ((lv.lookup (5000000 + id)).getD []) ops.toList j = true ∧ (lv.lookup (7000000 + id)).isSome = true ∧ dOps σ.s.heap.length ((lv.lookup (5000000 + id)).getD []) P tb N ops.toList (List.range j) σ fun σ' =>
        ∃ σ2, Apv tb ops.toList j N (keep (lv.lookup (7000000 + id)) σ') σ2 ∧ Q (keep (lv.lookup id) σ2)
      | some [p, _] => lexOkX p (p + 1) ((lv.lookup (5000000 + id)).getD []) ops.toList = true ∧ reachB p ops.toList = true ∧ p + 1 < ops.toList.length ∧ (lv.lookup id).isSome = true ∧
        dOps σ.s.heap.length ((lv.lookup (5000000 + id)).getD []) P tb N ops.toList (List.range p) σ (both σ.s.heap.length ((lv.lookup (5000000 + id)).getD []) P tb N ops.toList p fun σ' => Q (keep (lv.lookup id) σ'))
      | _ => lexOk2 ((lv.lookup (5000000 + id)).getD []) ops.toList = true ∧ (lv.lookup id).isSome = true ∧ dOps (baseOf (lv.lookup (8000000 + id)) σ.s.heap.length) ((lv.lookup (5000000 + id)).getD []) P tb N ops.toList (List.range ops.toList.length) σ fun σ' => Q (keep (lv.lookup id) σ')
def panE (o:Option (List Nat)) (σ : St):St:=match o with
 | none=>⟨[],σ.s⟩
 | some l=>keep (some l) σ
theorem Q47 {N:Nat} {G:Gh} {σ : St} {a:Act} {w:World} (h:Rel N G σ a w) (o:Option (List Nat)):Rel N G (panE o σ) a w:=by
 unfold panE
 split
 ·exact⟨h.inv,fun t d hd=>by simp at hd,h.size⟩
 ·exact Qf1 h _
def rwpP (P:Program) (tb:Tbl) (N:Nat) (lv:List (Nat×List Nat)) (pk:List Nat) (id:Nat) (ops:Array Oper) (dr:Bool) (Q:Exit→St→Prop) (σ : St):Prop:=force σ fun σ => match dr with
 | false=>pOps pk ((lv.lookup (9000000+id)).getD []) P tb N ops.toList (fun τ => Q (.panic panCH) (panE (lv.lookup (9700000+id)) τ)) (List.range ops.toList.length) σ fun σ' => Q .normal (keep (lv.lookup id) σ')
 | true=>rwp P tb N lv id ops true (Q .normal) σ ∨ ∃ t:PT,ptTop ops t=true∧panT P tb N ops.toList (fun τ => Q (.panic panCH) (panE (lv.lookup (9700000+id)) τ)) t σ
def bwp (B:Nat×Nat) (P:Program) (tb:Tbl) (N:Nat) (lv:List (Nat×List Nat)):Code→(Exit→St→Prop)→St→Prop
 | .skip,Q,σ => Q .normal σ
 | .label _,Q,σ => Q .normal σ
 | .region id ops dr,Q,σ => match lv.lookup (9600000+id) with
  | none=>match lv.lookup (9500000+id) with
   | none=>rwp P tb N lv id ops dr (Q .normal) σ
   | some _=>∃ τ,Le B N σ τ ∧ rwp P tb N lv id ops dr (Q .normal) τ
  | some pk=>∃ τ,Le B N σ τ ∧ rwpP P tb N lv pk id ops dr Q τ
 | .seq x y,Q,σ => match lv.lookup (skey x) with
  | none=>bwp B P tb N lv x (fun e σ' => match e with | .normal=>bwp B P tb N lv y Q σ' | e=>Q e σ') σ
  | some _=>∃ M:Exit→St→Prop,bwp B P tb N lv x M σ ∧ ∀ e σ', M e σ' → ∃ τ,Le B N σ' τ ∧ (match e with | .normal=>bwp B P tb N lv y Q τ | e=>Q e τ)
 | .cond c x y,Q,σ => match ev σ.env c with
  | some (.p (.v (.bool b)))=>(b=true→bwp B P tb N lv x Q σ)∧(b=false→bwp B P tb N lv y Q σ)
  | _=>False
 | .block id b,Q,σ => bwp B P tb N lv b (fun e σ' => match e with | .exit i=>if i=id then Q .normal σ' else Q (.exit i) σ' | e=>Q e σ') σ
 | .exit id,Q,σ => Q (.exit id) σ
 | .ret,Q,σ => Q .ret σ
 | .goto l,Q,σ => Q (.goto l) σ
 | .scope b,Q,σ => ∃ M:Exit→St→Prop,T B P N (.scope b) M σ ∧ ∀ e σ', M e σ' → ∃ τ,Le B N σ' τ ∧ Q e τ
 | .loop b,Q,σ => ∃ M:Exit→St→Prop,T B P N (.loop b) M (keep (lv.lookup (1000000+firstReg b)) σ)∧∀ e σ', M e σ' → ∃ τ,Le B N σ' τ ∧ Q e τ
 | .rangeFunc g ps x y,Q,σ => ∃ M:Exit→St→Prop,T B P N (.rangeFunc g ps x y) M (keep (lv.lookup (4000000+firstReg (.rangeFunc g ps x y))) σ)∧∀ e σ', M e σ' → ∃ τ,Le B N σ' τ ∧ Q e τ
 | _,_,_=>False
theorem T_up {B:Nat×Nat} {N:Nat} {c:Code} {M Q:Exit→St→Prop} {σ : St} (h:T B P N c M σ) (k:∀ e σ', M e σ' → ∃ τ,Le B N σ' τ ∧ Q e τ):T B P N c Q σ := ⟨fun rd lo G a w hR hF =>
 wpIn_mono (h.out rd lo G a w hR hF) fun e a' w' ⟨G', σ', hE,hR', hF', hq⟩=>by
  obtain⟨τ,hl,hq⟩:=k e σ' hq
  obtain⟨G2,e2,r2⟩:=hl.out G' a' w' hR'
  exact⟨G2,τ,hE.trans e2,r2,hF'.ext e2.ext rfl,hq⟩⟩
theorem T_seq {B:Nat×Nat} {N:Nat} {x y:Code} {M Q:Exit→St→Prop} {σ : St} (h:T B P N x M σ) (k:∀ e σ', M e σ' → match e with | .normal=>T B P N y Q σ' | e=>Q e σ'):T B P N (.seq x y) Q σ := ⟨fun rd lo G a w hR hF=>by
 refine wpIn_seq (wpIn_mono (h.out rd lo G a w hR hF) fun e a' w' ⟨G', σ', hE,hR', hF', hq⟩=>?_)
 have hq:=k e σ' hq
 cases e with
 | normal=>exact wpIn_mono (hq.out rd lo G' a' w' hR' hF') fun e a'' w'' ⟨G'', σ'', hE', hR'', hF'', hq'⟩=>⟨G'', σ'', hE.trans hE', hR'', hF'', hq'⟩
 | exit id=>exact⟨G', σ', hE,hR', hF', hq⟩
 | goto l=>exact⟨G', σ', hE,hR', hF', hq⟩
 | ret=>exact⟨G', σ', hE,hR', hF', hq⟩
 | panic ch=>exact⟨G', σ', hE,hR', hF', hq⟩
 | outgrown=>exact⟨G', σ', hE,hR', hF', hq⟩⟩
theorem Qun (hm:P.follows .mixedOrders=true) (hT:TblOk P tb) {B:Nat×Nat} {N:Nat} {lv:List (Nat×List Nat)} {id:Nat} {ops:Array Oper} {dr:Bool} {Q:Exit→St→Prop} {σ : St} (h:rwp P tb N lv id ops dr (Q .normal) σ):T B P N (.region id ops dr) Q σ :=.mk fun rd lo G a w hR hF=>by
 unfold rwp at h
 rw[Q4s] at h
 have hops:ops.toList.toArray=ops:=by simp
 cases dr with
 | false =>
  refine wpIn_region ?_
  simp only at h
  split at h
  ·have:=Qx0 hT (rd:=rd) (ops:=ops.toList) (Q:=fun e a' w' => ∃ G' σ', Ex B G w G' w' ∧ Rel N G' σ' a' w' ∧ Fr rd lo G' a' w' ∧ Q e σ') (G0:=G) (w0:=w) (ds:=a.defers) (fun a' w' G' σ' hE hR' hd hK=>⟨G', _,hE,Qf1 hR' _,hF.ext hE.ext hd,hK⟩) _ σ a w G (.refl B G w) hR rfl h
   rw[hops] at this
   simpa using this
  ·have:=Qo6 hT (rd:=rd) (ops:=ops.toList) (Q:=fun e a' w' => ∃ G' σ', Ex B G w G' w' ∧ Rel N G' σ' a' w' ∧ Fr rd lo G' a' w' ∧ Q e σ') (G0:=G) (w0:=w) (ds:=a.defers) (fun a' w' G' σ' hE hR' hd hK=>⟨G', _,hE,Qf1 hR' _,hF.ext hE.ext hd,hK⟩) _ σ a w G (.refl B G w) hR rfl h
   rw[hops] at this
   simpa using this
 | true =>
  simp only at h
  split at h
  ·obtain⟨t,τ,h1,h2,h3⟩:=h
   refine wpIn_region_any hm ?_
   have hd:Stp G w G { w with drawn:=w.drawn+1 }:=Stp.drewN G w _
   have:=(Q58 hT (rd:=rd) (N:=N) (ops:=ops.toList) (Q:=fun e a' w' => ∃ G' σ', Ex B G w G' w' ∧ Rel N G' σ' a' w' ∧ Fr rd lo G' a' w' ∧ Q e σ') (leaf:=fun σ' => keep (lv.lookup id) σ' = τ) (B:=B) (G0:=G) (w0:=w) (ds:=a.defers)
    (fun a' w' G' σ' hE hR' hd hK=>⟨G', _,hE,Qf1 hR' (lv.lookup id),hF.ext hE.ext hd,by rw[hK]; exact h3⟩) t true ops.size (Array.replicate ops.size false) σ a { w with drawn:=w.drawn+1 } G (by rw[hops]; exact h1) (hd.ex B) ⟨hR.inv.drewN _,hR.env.mono hd,hR.size⟩ rfl h2).1 rfl
   rw[hops] at this
   exact this
  split at h
  ·rename_i j hj
   obtain⟨h1,h2,h3,h4⟩:=h
   obtain⟨hjl,hsp⟩:=Qsp h1
   obtain⟨l,hl⟩:=Option.isSome_iff_exists.1 h3
   refine wpIn_region_any hm ?_
   have hsz:ops.size=ops.toList.length:=by simp
   have hall:((List.range j).filter fun i => !(Array.replicate ops.size false).getD i true)=List.range j:=by
    rw[List.filter_eq_self]
    intro i hi
    have:i<ops.size:=by have:=List.mem_range.1 hi; omega
    simp[Array.getD_eq_getD_getElem?,this]
   have hd:Stp G w G { w with drawn:=w.drawn+1 }:=Stp.drewN G w _
   have:=Qr2 hT (rd:=rd) (ops:=ops.toList) (j:=j) (k:=ops.toList.length-j) hjl h2 (fun i o hi ho x hx=>(hsp i o hi ho).2.1 x hx) (ds:=a.defers) (Q:=fun e a' w' => ∃ G' σ', Ex B G w G' w' ∧ Rel N G' σ' a' w' ∧ Fr rd lo G' a' w' ∧ Q e σ')
    (K:=fun σ' => xOps ((lv.lookup (9000000+id)).getD []) P tb N ops.toList (List.range' j (ops.toList.length-j)) (keep (lv.lookup (7000000+id)) σ') fun σ2=>Q .normal (keep (lv.lookup id) σ2)) (fun σ τ he hq=>by
     have e:keep (lv.lookup (7000000+id)) σ = keep (lv.lookup (7000000+id)) τ := by
      rw[hl]
      simp only[keep,he.2,Qj4 l he.1]
     show xOps _ P tb N ops.toList _ (keep (lv.lookup (7000000+id)) τ) _
     rw[← e]; exact hq) (G0:=G) (w0:=w) (fun a' w' G' σ' L l1 l2 l3 hE hR' hd hK=>Q59 hT h1 (Q:=fun e a' w' => ∃ G' σ', Ex B G w G' w' ∧ Rel N G' σ' a' w' ∧ Fr rd lo G' a' w' ∧ Q e σ') (fun a2 w2 G2 σ2 e2 r2 d2 k2=>⟨G2,_,e2,Qf1 r2 _,hF.ext e2.ext d2,k2⟩)
     (ops.toList.length-j) j (Nat.le_refl _) (by omega) L _ a' w' G' l1 l2 l3 hE (Qf1 hR' _) hd hK)
    j (Array.replicate ops.size false) σ a { w with drawn:=w.drawn+1 } G (by simp) (fun i o ho hi=>by
     have hlt:i<ops.size:=by rw[hsz]; exact(List.getElem?_eq_some_iff.1 ho).1
     simp[Array.getD_eq_getD_getElem?,hlt] at hi) (fun i _ hi=>by
     have hlt:i<ops.size:=by simpa using hi
     simp[Array.getD_eq_getD_getElem?,hlt]) (by rw[hall]; simp) (hd.ex B) ⟨hR.inv.drewN _,hR.env.mono hd,hR.size⟩ rfl (Q1s _ _) (by rw[hall]; exact h4)
   rw[hops] at this
   have hjz:j+(ops.toList.length-j)=ops.size:=by omega
   rw[hjz] at this
   exact this
  split at h
  ·rename_i j hj
   obtain⟨h1,h2,h3,h4⟩:=h
   have ht:=Q3t h1
   obtain⟨l,hl⟩:=Option.isSome_iff_exists.1 h3
   refine wpIn_region_any hm ?_
   have hsz:ops.size=j+6:=by have:=ht.len; simpa using this
   have hall:((List.range j).filter fun i => !(Array.replicate ops.size false).getD i true)=List.range j:=by
    rw[List.filter_eq_self]
    intro i hi
    have:i<ops.size:=by have:=List.mem_range.1 hi; omega
    simp[Array.getD_eq_getD_getElem?,this]
   have hd:Stp G w G { w with drawn:=w.drawn+1 }:=Stp.drewN G w _
   have:=Qr2 hT (rd:=rd) (ops:=ops.toList) (j:=j) (k:=6) (by rw[ht.len]; omega) h2 (fun i o hi ho x hx=>by
     have hi6:i<j+6:=by have:=(List.getElem?_eq_some_iff.1 ho).1; rw[ht.len] at this; exact this
     have:=ht.pre (i-j) (by omega) x hx
     rw[show j+(i-j)=i by omega] at this
     exact(Qqp ho).1 this) (ds:=a.defers) (Q:=fun e a' w' => ∃ G' σ', Ex B G w G' w' ∧ Rel N G' σ' a' w' ∧ Fr rd lo G' a' w' ∧ Q e σ') (K:=fun σ' => ∃ σ2,Apv tb ops.toList j N (keep (lv.lookup (7000000+id)) σ') σ2∧Q .normal (keep (lv.lookup id) σ2)) (fun σ τ he hq=>by
     have e:keep (lv.lookup (7000000+id)) σ = keep (lv.lookup (7000000+id)) τ := by
      rw[hl]
      simp only[keep,he.2,Qj4 l he.1]
     show ∃ σ2,Apv tb ops.toList j N (keep (lv.lookup (7000000+id)) τ) σ2∧Q .normal (keep (lv.lookup id) σ2)
     rw[← e]; exact hq) (G0:=G) (w0:=w) (fun a' w' G' σ' L l1 l2 l3 hE hR' hd ⟨σ2,hA,hK⟩=>Q69 hT ht hA (Qf1 hR' _) (fun a2 w2 G2 e2 r2 d2=>⟨G2,_,hE.trans (e2.ex B),Qf1 r2 _,hF.ext (hE.trans (e2.ex B)).ext (d2.trans hd),hK⟩) L l1 l2 l3)
    j (Array.replicate ops.size false) σ a { w with drawn:=w.drawn+1 } G (by simp) (fun i o ho hi=>by
     have hlt:i<ops.size:=by have:=(List.getElem?_eq_some_iff.1 ho).1; simpa using this
     simp[Array.getD_eq_getD_getElem?,hlt] at hi) (fun i _ hi=>by
     have hlt:i<ops.size:=by simpa using hi
     simp[Array.getD_eq_getD_getElem?,hlt]) (by rw[hall]; simp) (hd.ex B) ⟨hR.inv.drewN _,hR.env.mono hd,hR.size⟩ rfl (Nat.le_refl _) (by rw[hall]; exact h4)
   rw[hops,← hsz] at this
   exact this
  ·rename_i p _ hj
   obtain⟨h1,h2,h3,h4,h5⟩:=h
   obtain⟨l,hl⟩:=Option.isSome_iff_exists.1 h4
   refine wpIn_region_any hm ?_
   have hsz:ops.size=ops.toList.length:=by simp
   have hall:((List.range p).filter fun i => !(Array.replicate ops.size false).getD i true)=List.range p:=by
    rw[List.filter_eq_self]
    intro i hi
    have:i<ops.size:=by have:=List.mem_range.1 hi; omega
    simp[Array.getD_eq_getD_getElem?,this]
   have hd:Stp G w G { w with drawn:=w.drawn+1 }:=Stp.drewN G w _
   have:=Qx6 hT (rd:=rd) (ops:=ops.toList) h1 h3 (Q3v h2) (ds:=a.defers) (Q:=fun e a' w' => ∃ G' σ', Ex B G w G' w' ∧ Rel N G' σ' a' w' ∧ Fr rd lo G' a' w' ∧ Q e σ') (K:=fun σ' => Q .normal (keep (lv.lookup id) σ')) (fun σ τ he hq=>by
     have e:keep (lv.lookup id) σ = keep (lv.lookup id) τ := by
      rw[hl]
      simp only[keep,he.2,Qj4 l he.1]
     show Q .normal (keep (lv.lookup id) τ)
     rw[← e]; exact hq) (G0:=G) (w0:=w) (fun a' w' G' σ' hE hR' hd hK=>⟨G', _,hE,Qf1 hR' _,hF.ext hE.ext hd,hK⟩)
    ops.size (Array.replicate ops.size false) σ a { w with drawn:=w.drawn+1 } G (by simp) (fun i o ho hi=>by
     have hlt:i<ops.size:=by rw[hsz]; exact(List.getElem?_eq_some_iff.1 ho).1
     simp[Array.getD_eq_getD_getElem?,hlt] at hi) (fun i _ hi=>by
     have hlt:i<ops.size:=by simpa using hi
     simp[Array.getD_eq_getD_getElem?,hlt]) (by rw[hall]; simp at h3 ⊢; omega) (hd.ex B) ⟨hR.inv.drewN _,hR.env.mono hd,hR.size⟩ rfl (Nat.le_refl _) (by rw[hall]; exact h5)
   rw[hops] at this
   exact this
  ·obtain⟨h1,h2,h3⟩:=h
   obtain⟨l,hl⟩:=Option.isSome_iff_exists.1 h2
   refine wpIn_region_any hm ?_
   have hsz:ops.size=ops.toList.length:=by simp
   have hall:((List.range ops.toList.length).filter fun i => !(Array.replicate ops.size false).getD i true)=List.range ops.toList.length:=by
    rw[List.filter_eq_self]
    intro i hi
    have:i<ops.size:=by simpa using hi
    simp[Array.getD_eq_getD_getElem?,this]
   have hd:Stp G w G { w with drawn:=w.drawn+1 }:=Stp.drewN G w _
   have:=Q1p hT (rd:=rd) (ops:=ops.toList) h1 (ds:=a.defers) (Q:=fun e a' w' => ∃ G' σ', Ex B G w G' w' ∧ Rel N G' σ' a' w' ∧ Fr rd lo G' a' w' ∧ Q e σ') (K:=fun σ' => Q .normal (keep (lv.lookup id) σ')) (fun σ τ he hq=>by
     have e:keep (lv.lookup id) σ = keep (lv.lookup id) τ := by
      rw[hl]
      simp only[keep,he.2,Qj4 l he.1]
     show Q .normal (keep (lv.lookup id) τ)
     rw[← e]; exact hq) (G0:=G) (w0:=w) (fun a' w' G' σ' hE hR' hd hK=>⟨G', _,hE,Qf1 hR' _,hF.ext hE.ext hd,hK⟩)
    ops.size (Array.replicate ops.size false) σ a { w with drawn:=w.drawn+1 } G (by simp) (fun i o ho hi=>by
     have hlt:i<ops.size:=by rw[hsz]; exact(List.getElem?_eq_some_iff.1 ho).1
     simp[Array.getD_eq_getD_getElem?,hlt] at hi) (by rw[hall]; simp) (hd.ex B) ⟨hR.inv.drewN _,hR.env.mono hd,hR.size⟩ rfl (Q1s _ _) (by rw[hall]; exact h3)
   rw[hops] at this
   exact this
theorem Q6a (hm:P.follows .mixedOrders=true) (hT:TblOk P tb) {B:Nat×Nat} {N:Nat} {lv:List (Nat×List Nat)} {pk:List Nat} {id:Nat} {ops:Array Oper} {dr:Bool} {Q:Exit→St→Prop} {σ : St} (h:rwpP P tb N lv pk id ops dr Q σ):T B P N (.region id ops dr) Q σ :=.mk fun rd lo G a w hR hF=>by
 unfold rwpP at h
 rw[Q4s] at h
 have hops:ops.toList.toArray=ops:=by simp
 cases dr with
 | true =>
  rcases h with h | ⟨t,h1,h2⟩
  ·exact(Qun (Q:=Q) hm hT h).out rd lo G a w hR hF
  ·refine wpIn_region_any hm ?_
   have hd:Stp G w G { w with drawn:=w.drawn+1 }:=Stp.drewN G w _
   unfold ptTop at h1
   split at h1
   ·cases h1
   ·rename_i k hk
    rw[Bool.and_eq_true] at h1
    rw[hk] at h1 ⊢
    refine Qy3 h1.1 ?_
    have:=Q57 hT (rd:=rd) (N:=N) (ops:=ops.toList) (Q:=fun e a' w' => ∃ G' σ', Ex B G w G' w' ∧ Rel N G' σ' a' w' ∧ Fr rd lo G' a' w' ∧ Q e σ') (KP:=fun τ => Q (.panic panCH) (panE (lv.lookup (9700000+id)) τ)) (B:=B) (G0:=G) (w0:=w) (ds:=a.defers)
     (fun a' w' G' σ' hE hR' hd hK=>⟨G', _,hE,Q47 hR' _,hF.ext hE.ext hd,hK⟩) t k _ σ a { w with drawn:=w.drawn+1 } G (by rw[hops]; exact h1.2) (hd.ex B) ⟨hR.inv.drewN _,hR.env.mono hd,hR.size⟩ rfl h2
    rw[hops] at this
    exact this
 | false =>
  refine wpIn_region ?_
  have:=Qo7 hT (rd:=rd) (ops:=ops.toList) (Q:=fun e a' w' => ∃ G' σ', Ex B G w G' w' ∧ Rel N G' σ' a' w' ∧ Fr rd lo G' a' w' ∧ Q e σ') (G0:=G) (w0:=w) (ds:=a.defers) (fun a' w' G' σ' hE hR' hd hK=>⟨G', _,hE,Qf1 hR' _,hF.ext hE.ext hd,hK⟩)
   (fun a' w' G' σ' hE hR' hd hK=>⟨G', _,hE,Q47 hR' _,hF.ext hE.ext hd,hK⟩) _ σ a w G (.refl B G w) hR rfl h
  rw[hops] at this
  simpa using this
theorem Qai (hm:P.follows .mixedOrders=true) (hT:TblOk P tb) {B:Nat×Nat} {N:Nat} {lv:List (Nat×List Nat)}:∀ (c:Code) (Q:Exit→St→Prop) (σ : St),bwp B P tb N lv c Q σ → T B P N c Q σ
 | .skip,Q,σ,h=>⟨fun rd lo G a w hR hF=>wpIn_skip ⟨G,σ,.refl B G w,hR,hF,h⟩⟩
 | .label l,Q,σ,h=>⟨fun rd lo G a w hR hF=>wpIn_label ⟨G,σ,.refl B G w,hR,hF,h⟩⟩
 | .exit id,Q,σ,h=>⟨fun rd lo G a w hR hF=>wpIn_exit ⟨G,σ,.refl B G w,hR,hF,h⟩⟩
 | .ret,Q,σ,h=>⟨fun rd lo G a w hR hF=>wpIn_ret ⟨G,σ,.refl B G w,hR,hF,h⟩⟩
 | .goto l,Q,σ,h=>⟨fun rd lo G a w hR hF=>wpIn_goto ⟨G,σ,.refl B G w,hR,hF,h⟩⟩
 | .scope b,Q,σ,h=>by
  obtain⟨M,h1,h2⟩:=h
  exact T_up h1 h2
 | .region id ops dr,Q,σ,h=>by
  unfold bwp at h
  split at h
  ·split at h
   ·exact Qun hm hT h
   ·obtain⟨τ,hl,h⟩:=h
    exact T_le hl (Qun hm hT h)
  ·obtain⟨τ,hl,h⟩:=h
   exact T_le hl (Q6a hm hT h)
 | .seq x y,Q,σ,h=>by
  unfold bwp at h
  split at h
  ·refine T_seq (Qai hm hT x _ σ h) fun e σ' hq=>?_
   cases e with
   | normal=>exact Qai hm hT y Q σ' hq
   | _=>exact hq
  ·obtain⟨M,h1,h2⟩:=h
   refine T_seq (T_up (Q:=fun e τ => match e with | .normal=>bwp B P tb N lv y Q τ | e=>Q e τ) (Qai hm hT x M σ h1) h2) fun e σ' hq=>?_
   cases e with
   | normal=>exact Qai hm hT y Q σ' hq
   | _=>exact hq
 | .cond c x y,Q,σ,h =>.mk fun rd lo G a w hR hF=>by
  unfold bwp at h
  split at h
  ·rename_i b hb
   have hc:=Qso hR.env c _ hb
   have hv:a.eval c = .bool b:=by
    generalize a.eval c=q at hc
    cases hc with | p _ _ hc=>cases hc; rfl
   exact wpIn_cond_split hv (fun hb=>(Qai hm hT x Q σ (h.1 hb)).out rd lo G a w hR hF) (fun hb=>(Qai hm hT y Q σ (h.2 hb)).out rd lo G a w hR hF)
  ·exact h.elim
 | .block id b,Q,σ,h =>.mk fun rd lo G a w hR hF=>by
  refine wpIn_block (wpIn_mono ((Qai hm hT b _ σ h).out rd lo G a w hR hF) fun e a' w' ⟨G', σ', hE,hR', hF', hq⟩=>?_)
  cases e with
  | normal=>exact⟨G', σ', hE,hR', hF', hq⟩
  | exit i =>
   have hq:if i=id then Q .normal σ' else Q (.exit i) σ' := hq
   show if i=id then _ else _
   split
   ·rename_i hi; rw[if_pos hi] at hq; exact⟨G', σ', hE,hR', hF', hq⟩
   ·rename_i hi; rw[if_neg hi] at hq; exact⟨G', σ', hE,hR', hF', hq⟩
  | goto l=>exact⟨G', σ', hE,hR', hF', hq⟩
  | ret=>exact⟨G', σ', hE,hR', hF', hq⟩
  | panic ch=>exact⟨G', σ', hE,hR', hF', hq⟩
  | outgrown=>exact⟨G', σ', hE,hR', hF', hq⟩
 | .loop b,Q,σ,h=>by
  obtain⟨M,h1,h2⟩:=h
  exact Q86 _ (T_up h1 h2)
 | .rangeFunc g ps x y,Q,σ,h=>by
  obtain⟨M,h1,h2⟩:=h
  exact Q86 _ (T_up h1 h2)
 | .refuse _,_,_,h=>h.elim
structure TL (B:Nat×Nat) (P:Program) (N:Nat) (c:Code) (Q:Exit→St→Prop) (σ : St):Prop where
 out:∀ rd lo G a w,Rel N G σ a w→Fr rd lo G a w→∀ (b:Frame) (k:List Item) (cs:List Frame),b.roundOf=rd→∃ e a' w', (∃ G' σ', Ex B G w G' w' ∧ Rel N G' σ' a' w' ∧ Fr rd lo G' a' w' ∧ Q e σ') ∧
  ArrivesIn (Machine.fenced P (FW rd)) P (lone (b.atR a (.code c :: .inLoop c::k)) cs w) b k cs e a' w'
theorem TL.loop {B:Nat×Nat} {N:Nat} {c:Code} {Q:Exit→St→Prop} {σ : St} (h:TL B P N c Q σ):T B P N (.loop c) Q σ := ⟨fun rd lo G a w hR hF b k cs hro hb hr=>by
 obtain⟨e,a', w', hq,harr⟩:=h.out rd lo G a w hR hF b k cs (hro.trans (Qqk rd))
 exact⟨e,a', w', hq,.of_steps (.one (fenced_calm hb hr rfl) stepR_loop) harr⟩⟩
theorem TL.le {B:Nat×Nat} {N:Nat} {c:Code} {Q:Exit→St→Prop} {σ τ : St} (h:Le B N σ τ) (k:TL B P N c Q τ):TL B P N c Q σ := ⟨fun rd lo G a w hR hF b ks cs hro=>by
 obtain⟨G1,e1,r1⟩:=h.out G a w hR
 obtain⟨e,a', w', ⟨G', σ', hE,hR', hF', hq⟩,harr⟩:=k.out rd lo G1 a w r1 (hF.ext e1.ext rfl) b ks cs hro
 exact⟨e,a', w', ⟨G', σ', e1.trans hE,hR', hF', hq⟩,harr⟩⟩
theorem TL.round {B:Nat×Nat} {N:Nat} {c:Code} {Q:Exit→St→Prop} {σ : St} (h:T B P N c (fun e σ' => match e with | .normal=>TL B P N c Q σ' | e=>Q e σ') σ):TL B P N c Q σ := ⟨fun rd lo G a w hR hF b k cs hro=>by
 obtain⟨e,a₁,w₁,⟨G₁,σ₁,hE₁,hR₁,hF₁,hq⟩,harr⟩:=h.out rd lo G a w hR hF b (.inLoop c::k) cs (hro.trans (Qqk rd).symm) (FW_fn _ _) (Qyq _ _)
 cases e with
 | normal =>
  obtain⟨e₂,a₂,w₂,⟨G₂,σ₂,hE₂,hR₂,hF₂,hq₂⟩,harr₂⟩:=hq.out rd lo G₁ a₁ w₁ hR₁ hF₁ b k cs hro
  exact⟨e₂,a₂,w₂,⟨G₂,σ₂,hE₁.trans hE₂,hR₂,hF₂,hq₂⟩,.of_steps (StepsIn.trans harr (.one (fenced_calm (n:=0) (FW_fn _ _) (Qyq _ _) rfl) stepR_inLoop)) harr₂⟩
 | exit id=>exact⟨_,a₁,w₁,⟨G₁,σ₁,hE₁,hR₁,hF₁,hq⟩,.pass (x :=.inLoop c) rfl (fun _ _ =>.inl (by simp)) harr⟩
 | goto l=>exact⟨_,a₁,w₁,⟨G₁,σ₁,hE₁,hR₁,hF₁,hq⟩,.pass (x :=.inLoop c) rfl (fun _ _ =>.inl (by simp)) harr⟩
 | ret=>exact⟨_,a₁,w₁,⟨G₁,σ₁,hE₁,hR₁,hF₁,hq⟩,.pass (x :=.inLoop c) rfl (fun _ _ =>.inl (by simp)) harr⟩
 | panic ch=>exact⟨_,a₁,w₁,⟨G₁,σ₁,hE₁,hR₁,hF₁,hq⟩,.pass (x :=.inLoop c) rfl (fun _ _ =>.inl (by simp)) harr⟩
 | outgrown=>exact⟨_,a₁,w₁,⟨G₁,σ₁,hE₁,hR₁,hF₁,hq⟩,.pass (x :=.inLoop c) rfl (fun _ _ =>.inl (by simp)) harr⟩⟩
theorem Q3z {b:Frame} {a:Act} {k:List Item} {cs:List Frame} {w:World} {c:Code}:step P (lone (b.atR a (.code (.scope c)::k)) cs w) = .next (lone (b.atR a (.code c :: .inScope c::k)) cs w) :=
 step_lone_go (by simp[stepG,stepG.exec,Frame.atR])
structure TG (B:Nat×Nat) (P:Program) (N:Nat) (s c:Code) (Q:Exit→St→Prop) (σ : St):Prop where
 out:∀ rd lo G a w,Rel N G σ a w→Fr rd lo G a w→∀ (b:Frame) (k:List Item) (cs:List Frame),b.roundOf=rd→∃ e a' w', (∃ G' σ', Ex B G w G' w' ∧ Rel N G' σ' a' w' ∧ Fr rd lo G' a' w' ∧ Q e σ') ∧
  ArrivesIn (Machine.fenced P (FW rd)) P (lone (b.atR a (.code c :: .inScope s::k)) cs w) b k cs e a' w'
def gotoQ (B:Nat×Nat) (P:Program) (N:Nat) (s:Code) (l:Nat) (Q:Exit→St→Prop) (σ : St):Prop:=∃ rest,findLabel s l=some rest∧TG B P N s rest Q σ
theorem TG.scope {B:Nat×Nat} {N:Nat} {s:Code} {Q:Exit→St→Prop} {σ : St} (h:TG B P N s s Q σ):T B P N (.scope s) Q σ := ⟨fun rd lo G a w hR hF b k cs hro hb hr=>by
 obtain⟨e,a', w', hq,harr⟩:=h.out rd lo G a w hR hF b k cs (hro.trans (Qqk rd))
 exact⟨e,a', w', hq,.of_steps (.one (fenced_calm hb hr rfl) Q3z) harr⟩⟩
theorem TG.le {B:Nat×Nat} {N:Nat} {s c:Code} {Q:Exit→St→Prop} {σ τ : St} (h:Le B N σ τ) (k:TG B P N s c Q τ):TG B P N s c Q σ := ⟨fun rd lo G a w hR hF b ks cs hro=>by
 obtain⟨G1,e1,r1⟩:=h.out G a w hR
 obtain⟨e,a', w', ⟨G', σ', hE,hR', hF', hq⟩,harr⟩:=k.out rd lo G1 a w r1 (hF.ext e1.ext rfl) b ks cs hro
 exact⟨e,a', w', ⟨G', σ', e1.trans hE,hR', hF', hq⟩,harr⟩⟩
theorem Qqq {rd:Option Nat} {m:Machine} {b:Frame} {s:Code} {k:List Item} {cs:List Frame} {e:Exit} {a:Act} {w:World} (hn:e ≠ .normal) (hg:∀ l,e ≠ .goto l) (h:ArrivesIn (Machine.fenced P (FW rd)) P m b (.inScope s::k) cs e a w):ArrivesIn (Machine.fenced P (FW rd)) P m b k cs e a w:=by
 cases e with
 | normal=>exact absurd rfl hn
 | exit id=>exact⟨fun k' hk=>h.1 k' (by simpa [exitTo] using hk),fun hr hk=>h.2 hr (by simpa [exitTo] using hk)⟩
 | goto l=>exact absurd rfl (hg l)
 | ret=>exact h
 | panic ch=>exact h
 | outgrown=>exact h
theorem TG.seq {B:Nat×Nat} {N:Nat} {s x y:Code} {Q:Exit→St→Prop} {σ : St} (h:T B P N x (fun e σ' => match e with | .normal=>TG B P N s y Q σ' | .goto l=>gotoQ B P N s l Q σ' | e=>Q e σ') σ):TG B P N s (.seq x y) Q σ := ⟨fun rd lo G a w hR hF b k cs hro=>by
 obtain⟨e,a₁,w₁,⟨G₁,σ₁,hE₁,hR₁,hF₁,hq⟩,harr⟩:=h.out rd lo G a w hR hF b (.code y :: .inScope s::k) cs (hro.trans (Qqk rd).symm) (FW_fn _ _) (Qyq _ _)
 have h0:(lone (b.atR a (.code (.seq x y) :: .inScope s::k)) cs w).fenced P (FW rd):=fenced_calm (n:=0) (FW_fn _ _) (Qyq _ _) rfl
 have pass:∀ {e},e≠Exit.normal→ArrivesIn (Machine.fenced P (FW rd)) P (lone (b.atR a (.code x :: .code y :: .inScope s::k)) cs w) b (.code y :: .inScope s::k) cs e a₁ w₁ → ArrivesIn (Machine.fenced P (FW rd)) P (lone (b.atR a (.code x :: .code y :: .inScope s::k)) cs w) b (.inScope s::k) cs e a₁ w₁ := fun he h =>.pass (x :=.code y) rfl (fun _ _ =>.inl he) h
 cases e with
 | normal =>
  obtain⟨e₂,a₂,w₂,⟨G₂,σ₂,hE₂,hR₂,hF₂,hq₂⟩,harr₂⟩:=hq.out rd lo G₁ a₁ w₁ hR₁ hF₁ b k cs hro
  exact⟨e₂,a₂,w₂,⟨G₂,σ₂,hE₁.trans hE₂,hR₂,hF₂,hq₂⟩,.of_steps (.head h0 stepR_seq harr) harr₂⟩
 | goto l =>
  obtain⟨rest,hf,hq⟩:=hq
  obtain⟨e₂,a₂,w₂,⟨G₂,σ₂,hE₂,hR₂,hF₂,hq₂⟩,harr₂⟩:=hq.out rd lo G₁ a₁ w₁ hR₁ hF₁ b k cs hro
  exact⟨e₂,a₂,w₂,⟨G₂,σ₂,hE₁.trans hE₂,hR₂,hF₂,hq₂⟩,.of_steps (.head h0 stepR_seq (harr.1 _ (by simp[gotoIn,hf]))) harr₂⟩
 | exit id=>exact⟨_,a₁,w₁,⟨G₁,σ₁,hE₁,hR₁,hF₁,hq⟩,.of_steps (.one h0 stepR_seq) (Qqq (by simp) (by simp) (pass (by simp) harr))⟩
 | ret=>exact⟨_,a₁,w₁,⟨G₁,σ₁,hE₁,hR₁,hF₁,hq⟩,.of_steps (.one h0 stepR_seq) (Qqq (by simp) (by simp) (pass (by simp) harr))⟩
 | panic ch=>exact⟨_,a₁,w₁,⟨G₁,σ₁,hE₁,hR₁,hF₁,hq⟩,.of_steps (.one h0 stepR_seq) (Qqq (by simp) (by simp) (pass (by simp) harr))⟩
 | outgrown=>exact⟨_,a₁,w₁,⟨G₁,σ₁,hE₁,hR₁,hF₁,hq⟩,.of_steps (.one h0 stepR_seq) (Qqq (by simp) (by simp) (pass (by simp) harr))⟩⟩
theorem TG.label {B:Nat×Nat} {N:Nat} {s y:Code} {l:Nat} {Q:Exit→St→Prop} {σ : St} (h:TG B P N s y Q σ):TG B P N s (.seq (.label l) y) Q σ :=.seq ⟨fun rd lo G a w hR hF=>wpIn_label ⟨G,σ,.refl B G w,hR,hF,h⟩⟩
theorem TG.skip {B:Nat×Nat} {N:Nat} {s y:Code} {Q:Exit→St→Prop} {σ : St} (h:TG B P N s y Q σ):TG B P N s (.seq .skip y) Q σ :=.seq ⟨fun rd lo G a w hR hF=>wpIn_skip ⟨G,σ,.refl B G w,hR,hF,h⟩⟩
inductive LeE (env:Env):Env→Prop where
 | nil:LeE env []
 | cons {t:Nat} {d d' : D} {r:Env}:env.lookup t=some d→LeD d d' → LeE env r→LeE env ((t,d')::r)
inductive LeC:List D→List D→Prop where
 | nil:LeC [] []
 | cons {d d' : D} {r r' : List D}:LeD d d' → LeC r r' → LeC (d::r) (d' :: r')
inductive LeH:List (List D)→List (List D)→Prop where
 | nil:LeH [] []
 | cons {d d' : List D} {r r' : List (List D)}:LeC d d' → LeH r r' → LeH (d::r) (d' :: r')
theorem LeC.refl:∀ l,LeC l l
 | [] =>.nil
 | d::r =>.cons (.refl d) (LeC.refl r)
theorem LeH.refl:∀ l,LeH l l
 | [] =>.nil
 | d::r =>.cons (.refl d) (LeH.refl r)
theorem LeH.app {a a' b b' : List (List D)} (h:LeH a a') (k:LeH b b'):LeH (a++b) (a' ++ b'):=by
 induction h with
 | nil=>exact k
 | cons h1 _ ih=>exact .cons h1 ih
theorem LeE.look {env env' : Env} (h:LeE env env'):∀ {t:Nat} {d' : D},env'.lookup t=some d' → ∃ d,env.lookup t=some d∧LeD d d' := by
 induction h with
 | nil=>intro t d' h; cases h
 | @cons t0 d d0 r hl hd _ ih =>
  intro t d' h
  rw[List.lookup_cons] at h
  by_cases ht:t=t0
  ·subst ht
   simp only[beq_self_eq_true,Option.some.injEq] at h
   subst h
   exact⟨d,hl,hd⟩
  ·have hb:(t==t0)=false:=by simpa using ht
   rw[hb] at h
   exact ih h
theorem LeC.get {l l' : List D} (h:LeC l l'):l.length=l'.length∧∀ (j:Nat) d', l'[j]? = some d' → ∃ d,l[j]? = some d∧LeD d d' := by
 induction h with
 | nil=>exact⟨rfl,fun j d' h=>by simp at h⟩
 | @cons d d0 r r' hd _ ih =>
  refine⟨by simp[ih.1],fun j d' hj=>?_⟩
  cases j with
  | zero=>simp at hj; subst hj; exact⟨d,rfl,hd⟩
  | succ j=>exact ih.2 j d' (by simpa using hj)
theorem LeH.get {l l' : List (List D)} (h:LeH l l'):l.length=l'.length∧∀ (j:Nat) d', l'[j]? = some d' → ∃ d,l[j]? = some d∧LeC d d' := by
 induction h with
 | nil=>exact⟨rfl,fun j d' h=>by simp at h⟩
 | @cons d d0 r r' hd _ ih =>
  refine⟨by simp[ih.1],fun j d' hj=>?_⟩
  cases j with
  | zero=>simp at hj; subst hj; exact⟨d,rfl,hd⟩
  | succ j=>exact ih.2 j d' (by simpa using hj)
theorem MapRows.le {C:Nat→Nat→Prop} {w:World} {ms ms' : List (List V)} {es:Array MapEntry} (h:MapRows C w ms es) (hl:ms.length=ms'.length) (hk:∀ (i:Nat) e e', ms[i]? = some e→ms'[i]? = some e' → e.length=e'.length)
  (hv:∀ (i:Nat) e e', ms[i]? = some e→ms'[i]? = some e' → ∀ (k:Nat) c c', e[k]? = some c→e'[k]? = some c' → LeV c c'):MapRows C w ms' es:=by
 refine⟨by rw[← hl]; exact h.1,fun i m' e hm' he=>?_⟩
 obtain⟨m,hm⟩:=getLen hl hm'
 obtain⟨k,v,rfl,h1,h2⟩:=h.2 i m e hm he
 have hlen:=hk i _ m' hm hm'
 match m', hlen,hm' with
 | [k', v'],_,hm' => exact⟨k', v', rfl,h1.le (hv i _ _ hm hm' 0 k k' rfl rfl),h2.le (hv i _ _ hm hm' 1 v v' rfl rfl)⟩
theorem VarAt.le {G:Gh} {w:World} {b:Nat} {cs cs' : List D} (h:VarAt G w b cs) (l1:cs'.length=cs.length) (l2:∀ (j:Nat) d', cs'[j]? = some d' → ∃ d,cs[j]? = some d∧LeD d d'):VarAt G w b cs' := by
 cases h with
 | cells us ty h1 h2 h3 =>
  refine .cells us ty h1 (by rw[h2]; exact l1.symm) fun j c' u hc' hu=>?_
  obtain⟨c,hc,hd⟩:=l2 j c' hc'
  obtain⟨g1,g2⟩:=h3 j c u hc hu
  exact⟨g1,g2.le hd⟩
 | map fl ms es clock h1 h2 h3 =>
  subst h1
  match cs', l1,l2 with
  | [d'],_,l2 =>
   obtain⟨d,hd,hle⟩:=l2 0 d' rfl
   have hd:D.tup [.p (.sl fl ms)]=d:=Option.some.inj hd
   cases hle with
   | refl=>exact .map fl ms es clock (by rw[hd]) h2 h3
   | p=>cases hd
   | own=>cases hd
   | drop=>cases hd
   | @tup xs ys k =>
    injection hd with hd
    obtain⟨x,rfl,e⟩:=Q3g hd.symm
    injection e with e
    subst e
    obtain⟨k1,k2⟩:=k
    match ys,k1,k2 with
    | [y],_,k2 =>
     have hv:=k2 0 _ _ rfl rfl
     cases hv with
     | refl=>exact .map fl ms es clock rfl h2 h3
     | sl _ f' _ ms' _ q1 q2 q3=>exact .map f' ms' es clock rfl h2 (h3.le q1 q2 q3)
theorem Inv.le {G:Gh} {h h' : List (List D)} {live:List Nat} {w:World} (hI:Inv G ⟨h,live⟩ w) (k:LeH h h'):Inv G ⟨h', live⟩ w:=by
 obtain⟨k1,k2⟩:=k.get
 refine⟨hI.com,by rw[hI.names]; exact k1,hI.nodup,fun i b cs' hb hcs' => ?_,hI.live,hI.tok,hI.pro,hI.glob⟩
 obtain⟨cs,hcs,hle⟩:=k2 i cs' hcs'
 obtain⟨l1,l2⟩:=hle.get
 exact(hI.var i b cs hb hcs).le l1.symm l2
theorem Le.weak {B:Nat×Nat} {N:Nat} {env env' : Env} {h h' : List (List D)} {live live' : List Nat} (he:LeE env env') (hh:LeH h h') (hl:live=live'):Le B N ⟨env,⟨h,live⟩⟩ ⟨env', ⟨h', live'⟩⟩:=⟨fun G a w hR=>by
 subst hl
 refine⟨G,.refl B G w,⟨hR.inv.le hh,fun t d' hd=>?_,hR.size⟩⟩
 obtain⟨d,h1,h2⟩:=he.look hd
 obtain⟨k1,k2⟩:=hR.env t d h1
 exact⟨k1,k2.le h2⟩⟩
theorem Le.tow (k m:Nat) {B:Nat×Nat} {N:Nat} {env env1 env' : Env} {s:S} {h' : List (List D)} {live' : List Nat} (h:keepE k m env=some env1) (he:LeE env1 env') (hh:LeH (s.heap.take k) h') (hlv:s.live.take m=live')
  (h1:B.1≤k:=by exact Nat.le_of_ble_eq_true rfl) (h2:B.2≤m:=by exact Nat.le_of_ble_eq_true rfl)
  (hl:(s.heap.take k).all (fun cs=>cs.all (D.lt k m))=true:=by exact rfl):Le B N ⟨env,s⟩ ⟨env', ⟨h', live'⟩⟩ :=
 (Le.to k m (τ := ⟨env1,⟨s.heap.take k,s.live.take m⟩⟩) (by rw[h]; rfl) h1 h2 hl).trans (Le.weak he hh hlv)
def selE (env:Env):List Nat→Option Env
 | []=>some []
 | t::r=>match env.lookup t,selE env r with
  | some d,some l=>some ((t,d)::l)
  | _,_=>none
theorem Q7a {env:Env}:∀ (l:List Nat) (env' : Env),selE env l=some env' → LeE env env'
 | [],env', h=>by cases h; exact .nil
 | t::r,env', h=>by
  unfold selE at h
  split at h
  ·rename_i d l h1 h2
   cases h
   exact .cons h1 (.refl _) (Q7a r l h2)
  ·cases h
theorem Le.tz (k m:Nat) {B:Nat×Nat} {N:Nat} {env env1 env' : Env} {s:S} {live' : List Nat} (h:keepE k m env=some env1) (he:selE env1 (env'.map (·.1))=some env') (hlv:s.live.take m=live')
  (h1:B.1≤k:=by exact Nat.le_of_ble_eq_true rfl) (h2:B.2≤m:=by exact Nat.le_of_ble_eq_true rfl)
  (hl:(s.heap.take k).all (fun cs=>cs.all (D.lt k m))=true:=by exact rfl):Le B N ⟨env,s⟩ ⟨env', ⟨s.heap.take k,live'⟩⟩:=Le.tow k m h (Q7a _ _ he) (.refl _) hlv h1 h2 hl
section
variable {A C E:Type} {B:Nat×Nat} {N:Nat}
def JP1 (B:Nat×Nat) (N:Nat) (o:A) (e1:Exit) (st1:A→St):Exit→St→Prop:=fun e σ => e=e1∧Le B N σ (st1 o)
def JP2 (B:Nat×Nat) (N:Nat) (o:A⊕C) (e1:Exit) (st1:A→St) (e2:Exit) (st2:C→St):Exit→St→Prop:=fun e σ => (e=e1∧∃ y,o = .inl y∧Le B N σ (st1 y))∨(e=e2∧∃ y,o = .inr y∧Le B N σ (st2 y))
def JP3 (B:Nat×Nat) (N:Nat) (o:A⊕C⊕E) (e1:Exit) (st1:A→St) (e2:Exit) (st2:C→St) (e3:Exit) (st3:E→St):Exit→St→Prop:=fun e σ =>
 (e=e1∧∃ y,o = .inl y∧Le B N σ (st1 y))∨(e=e2∧∃ y,o = .inr (.inl y)∧Le B N σ (st2 y))∨(e=e3∧∃ y,o = .inr (.inr y)∧Le B N σ (st3 y))
theorem JP1.a {o y:A} {e1:Exit} {st1:A→St} {σ : St} (h:some y=some o) (hl:Le B N σ (st1 y)):JP1 B N o e1 st1 e1 σ := by cases h; exact⟨rfl,hl⟩
theorem JP2.a {o:A⊕C} {y:A} {e1 e2:Exit} {st1:A→St} {st2:C→St} {σ : St} (h:some (.inl y)=some o) (hl:Le B N σ (st1 y)):JP2 B N o e1 st1 e2 st2 e1 σ := by cases h; exact .inl ⟨rfl,y,rfl,hl⟩
theorem JP2.b {o:A⊕C} {y:C} {e1 e2:Exit} {st1:A→St} {st2:C→St} {σ : St} (h:some (.inr y)=some o) (hl:Le B N σ (st2 y)):JP2 B N o e1 st1 e2 st2 e2 σ := by cases h; exact .inr ⟨rfl,y,rfl,hl⟩
theorem JP3.a {o:A⊕C⊕E} {y:A} {e1 e2 e3:Exit} {st1:A→St} {st2:C→St} {st3:E→St} {σ : St} (h:some (.inl y)=some o) (hl:Le B N σ (st1 y)):JP3 B N o e1 st1 e2 st2 e3 st3 e1 σ := by cases h; exact .inl ⟨rfl,y,rfl,hl⟩
theorem JP3.b {o:A⊕C⊕E} {y:C} {e1 e2 e3:Exit} {st1:A→St} {st2:C→St} {st3:E→St} {σ : St} (h:some (.inr (.inl y))=some o) (hl:Le B N σ (st2 y)):JP3 B N o e1 st1 e2 st2 e3 st3 e2 σ := by cases h; exact .inr (.inl ⟨rfl,y,rfl,hl⟩)
theorem JP3.c {o:A⊕C⊕E} {y:E} {e1 e2 e3:Exit} {st1:A→St} {st2:C→St} {st3:E→St} {σ : St} (h:some (.inr (.inr y))=some o) (hl:Le B N σ (st3 y)):JP3 B N o e1 st1 e2 st2 e3 st3 e3 σ := by cases h; exact .inr (.inr ⟨rfl,y,rfl,hl⟩)
theorem join1 {o:A} {e1:Exit} {st1:A→St} {G:Exit→St→Prop} (k:G e1 (st1 o)):∀ e σ,JP1 B N o e1 st1 e σ → ∃ τ,Le B N σ τ ∧ G e τ := fun e σ ⟨he,hl⟩=>he ▸ ⟨_,hl,k⟩
theorem join2 {o:A⊕C} {e1 e2:Exit} {st1:A→St} {st2:C→St} {G:Exit→St→Prop} (k1:∀ y,o = .inl y→G e1 (st1 y)) (k2:∀ y,o = .inr y→G e2 (st2 y)):∀ e σ,JP2 B N o e1 st1 e2 st2 e σ → ∃ τ,Le B N σ τ ∧ G e τ := fun e σ h=>by
 rcases h with ⟨he,y,ho,hl⟩ | ⟨he,y,ho,hl⟩
 ·exact he ▸ ⟨_,hl,k1 y ho⟩
 ·exact he ▸ ⟨_,hl,k2 y ho⟩
end
theorem bT {φ ψ : Prop} (h : φ):(true=true → φ)∧(true=false → ψ):=And.intro (fun _=>h) (fun e=>nomatch e)
theorem bF {φ ψ : Prop} (h : φ):(false=true → ψ)∧(false=false → φ):=And.intro (fun e=>nomatch e) (fun _=>h)
theorem sizeNil {sz:Nat}:∀ x ∈ ([]:List (List V)),x.length=sz:=fun x hx=>nomatch hx
theorem mapSize {α : Type} {c : α → List V} {l:List α} {sz:Nat} (h:∀ x,(c x).length=sz):∀ x ∈ l.map c,x.length=sz:=fun x hx=>by
 obtain⟨z,-,rfl⟩:=List.mem_map.1 hx; exact h z
section
variable {R:Type}
theorem Qae {b:Bool} {X Y:Option R} {r:R} {φ ψ : Prop} (h:(if b=true then X else Y)=some r) (k1:b=true→X=some r → φ) (k2:b=false→Y=some r → ψ):(b=true → φ)∧(b=false → ψ) :=
 ⟨fun e=>k1 e (by rw[e] at h; exact h),fun e=>k2 e (by rw[e] at h; exact h)⟩
theorem Qag {α : Type} {x:Option α} {f : α → Option R} {r:R} {φ : Prop} (h:(x>>=f)=some r) (k:∀ y,x=some y→f y=some r → φ) : φ := by
 obtain⟨y,hy,hf⟩:=Option.bind_eq_some_iff.1 h
 exact k y hy hf
def idx {α : Type} (l:List α) (i:Int):Option α := if 0≤i then l[i.toNat]? else none
theorem Qa5 {α : Type} {l:List α} {i:Int} {c c' : α → List V} {f : α → Option R} {r:R} {sz:Nat} {K:List V→Prop} (h:(idx l i>>=f)=some r) (hc:∀ x,c x=c' x) (hs:∀ x,(c' x).length=sz) (hz:0<sz) (k:∀ x,idx l i=some x→f x=some r→K (c' x)) :
  ∃ cell,0≤i∧(l.map c)[i.toNat]? = some cell∧cell.length=sz∧0<sz∧K cell:=by
 refine Qag h fun x hx hf=>?_
 have hk:=k x hx hf
 unfold idx at hx
 split at hx
 ·rename_i hi
  exact⟨c' x,hi,by rw[List.getElem?_map,hx,Option.map_some,hc],hs x,hz,hk⟩
 ·cases hx
theorem Qfx {l:List UInt8} {i:Int} {f:UInt8→Option R} {r:R} {K:UInt8→Prop} (h:(idx l i>>=f)=some r) (k:∀ x,idx l i=some x→f x=some r→K x):∃ c,0≤i∧l[i.toNat]? = some c∧K c:=by
 refine Qag h fun x hx hf=>?_
 have hk:=k x hx hf
 unfold idx at hx
 split at hx
 ·rename_i hi
  exact⟨x,hi,hx,hk⟩
 ·cases hx
def need (p:Prop) [Decidable p]:Option Unit:=if p then some () else none
theorem Q30 {p:Prop} [Decidable p] {f:Unit→Option R} {r:R} {φ : Prop} (h:(need p>>=f)=some r) (k:f ()=some r → φ):p ∧ φ := by
 refine Qag h fun x hx hf=>?_
 unfold need at hx
 split at hx
 ·exact⟨by assumption,k hf⟩
 ·cases hx
def cutL {α : Type} (l:List α) (lo hi:Int):Option (List α):=if 0≤lo∧lo≤hi∧hi≤l.length then some ((l.take hi.toNat).drop lo.toNat) else none
def appL {α : Type} (bytes:Nat) (a b:List α):Option (List α):=if(a.length+b.length)*bytes≤140737488355328∧a.length+b.length≤9223372036854775807 then some (a++b) else none
theorem view {d d' : D} {l live:List Nat} {K:D→List Nat→Prop} (h:LeD d d') (hl:live=l) (k:K d' live):∃ d' live,LeD d d' ∧ live=l∧K d' live:=⟨d', live,h,hl,k⟩
theorem vrfl {d:D} {l:List Nat} {K:D→List Nat→Prop} (k:K d l):∃ d' live,LeD d d' ∧ live=l∧K d' live:=⟨d,l,.refl d,rfl,k⟩
theorem lenMap {α : Type} (l:List α) (c : α → List V):LeD (.p (.v (.int .i64 (l.map c).length))) (.p (.v (.int .i64 l.length))) :=.eq (by rw[List.length_map])
theorem cutMap {α : Type} {l m:List α} {lo hi:Int} (c : α → List V) (h:cutL l lo hi=some m):cutOk (some lo) (some hi) (l.map c).length∧((l.map c).take hi.toNat).drop lo.toNat=m.map c:=by
 unfold cutL at h
 split at h
 ·rename_i hc
  cases h
  refine⟨⟨hc.1,hc.2.1,by rw[List.length_map]; exact hc.2.2⟩,by rw[List.map_drop,List.map_take]⟩
 ·cases h
theorem cutStr {l m:List UInt8} {lo hi:Int} (h:cutL l lo hi=some m):cutOk (some lo) (some hi) l.length∧(l.take hi.toNat).drop lo.toNat=m:=by
 unfold cutL at h
 split at h
 ·rename_i hc
  cases h
  exact⟨⟨hc.1,hc.2.1,hc.2.2⟩,rfl⟩
 ·cases h
theorem appMap {α : Type} {bytes:Nat} {a b o:List α} {c : α → List V} {fs:List (List V)} {sz:Nat} (h:appL bytes a b=some o) (hf:LeLL fs (b.map c)) (hs:∀ x,(c x).length=sz) :
  ((∀ x ∈ fs,x.length=sz)∧((a.map c).length+fs.length)*bytes≤140737488355328∧(a.map c).length+fs.length≤9223372036854775807)∧LeLL (a.map c++fs) (o.map c)∧(a.map c++fs).length=o.length∧∀ x ∈ a.map c,x.length=sz:=by
 unfold appL at h
 split at h
 ·rename_i hc
  cases h
  have hl:fs.length=b.length:=by rw[hf.1,List.length_map]
  refine⟨⟨fun x hx=>?_,by rw[List.length_map,hl]; exact hc.1,by rw[List.length_map,hl]; exact hc.2⟩,by rw[List.map_append]; exact .app (.refl _) hf,by simp[hl],fun x hx=>?_⟩
  ·obtain⟨i,hi⟩:=List.getElem?_of_mem hx
   obtain⟨y,hy⟩:=getLen hf.1.symm hi
   rw[(hf.2 i x y hi hy).1]
   obtain⟨z,-,rfl⟩:=List.mem_map.1 (List.mem_of_getElem? hy)
   exact hs z
  ·obtain⟨z,-,rfl⟩:=List.mem_map.1 hx
   exact hs z
 ·cases h
theorem Q48 {α R:Type} {l:List α} {c : α → List V} (lo hi:Option Int) {f:List α → Option R} {r:R} {full:Bool} {lv:List Nat} {K:D→List Nat→Prop} {sz:Nat} (h:(cutL l (lo.getD 0) (hi.getD l.length)>>=f)=some r) (hs:∀ x,(c x).length=sz)
  (k:∀ m,cutL l (lo.getD 0) (hi.getD l.length)=some m→f m=some r→K (.p (.sl (full&&hi.isNone) (m.map c))) lv) :
  cutOk lo hi (l.map c).length∧(lo=none∨∀ x ∈ l.map c,x.length=sz)∧∃ d' live,LeD (.p (.sl (full&&hi.isNone) (((l.map c).take (hi.getD (l.map c).length).toNat).drop (lo.getD 0).toNat))) d' ∧ live=lv∧K d' live:=by
 refine Qag h fun m hm hf=>?_
 obtain⟨⟨h1,h2,h3⟩,h4⟩:=cutMap c hm
 have e:(hi.getD (l.map c).length)=hi.getD (l.length:Int):=by rw[List.length_map]
 refine⟨⟨h1,?_,?_⟩,.inr fun x hx=>?_,_,_,.eq ?_,rfl,k m hm hf⟩
 ·rw[e]; exact h2
 ·rw[e]; exact h3
 ·obtain⟨z,-,rfl⟩:=List.mem_map.1 hx; exact hs z
 ·rw[e,h4]
theorem Qn0 {R:Type} {l:List UInt8} (lo hi:Option Int) {f:List UInt8→Option R} {r:R} {lv:List Nat} {K:D→List Nat→Prop} (h:(cutL l (lo.getD 0) (hi.getD l.length)>>=f)=some r)
  (k:∀ m,cutL l (lo.getD 0) (hi.getD l.length)=some m→f m=some r→K (.p (.v (strOf m))) lv) :
  cutOk lo hi l.length∧∃ d' live,LeD (.p (.v (strOf ((l.take (hi.getD l.length).toNat).drop (lo.getD 0).toNat)))) d' ∧ live=lv∧K d' live:=by
 refine Qag h fun m hm hf=>?_
 obtain⟨⟨h1,h2,h3⟩,h4⟩:=cutStr hm
 exact⟨⟨h1,h2,h3⟩,_,_,.eq (by rw[h4]),rfl,k m hm hf⟩
theorem Qlc {α R:Type} {bytes:Nat} {a b:List α} {c : α → List V} {fs:List (List V)} {sz tk e:Nat} {f:List α → Option R} {r:R} {lv:List Nat} {K:D→List Nat→Prop} (h:(appL bytes a b>>=f)=some r) (hf:LeLL fs (b.map c)) (hs:∀ x,(c x).length=sz)
  (hl:lv[tk]? = some (a.map c).length) (k:∀ o,appL bytes a b=some o→f o=some r→K (.own tk e sz (o.map c)) (lv.set tk (o.map c).length)) :
  lv[tk]? = some (a.map c).length∧((∀ x ∈ fs,x.length=sz)∧((a.map c).length+fs.length)*bytes≤140737488355328∧(a.map c).length+fs.length≤9223372036854775807) ∧
   ∃ d' live,LeD (.own tk e sz (a.map c++fs)) d' ∧ live=lv.set tk (a.map c++fs).length∧K d' live:=by
 refine Qag h fun o ho hk=>?_
 obtain⟨h1,h2,h3,-⟩:=appMap ho hf hs
 exact⟨hl,h1,_,_,.own h2,by rw[h2.1],k o ho hk⟩
theorem Q7b {α R:Type} {bytes:Nat} {a b:List α} {c : α → List V} {es fs:List (List V)} {sz e:Nat} {f:List α → Option R} {r:R} {lv:List Nat} {K:D→List Nat→Prop} (h:(appL bytes a b>>=f)=some r) (he:LeLL es (a.map c)) (hf:LeLL fs (b.map c)) (hs:∀ x,(c x).length=sz) (hcl:a.length=0∨0<b.length)
  (k:∀ o,appL bytes a b=some o→f o=some r→K (.own lv.length e sz (o.map c)) (lv++[(o.map c).length])) :
  (es.length=0∨0<fs.length)∧(∀ x ∈ es,x.length=sz)∧((∀ x ∈ fs,x.length=sz)∧(es.length+fs.length)*bytes≤140737488355328∧es.length+fs.length≤9223372036854775807) ∧
   ∃ d' live,LeD (.own lv.length e sz (es++fs)) d' ∧ live=lv++[(es++fs).length]∧K d' live:=by
 refine Qag h fun o ho hk=>?_
 obtain⟨h1,h2,h3,h4⟩:=appMap ho hf hs
 have hl:es.length=(a.map c).length:=he.1
 have h5:LeLL (es++fs) (o.map c):=by
  unfold appL at ho
  split at ho
  ·cases ho; rw[List.map_append]; exact .app he hf
  ·cases ho
 refine⟨by rw[hl,List.length_map,hf.1,List.length_map]; exact hcl,fun x hx=>?_,by rw[hl]; exact h1,_,_,.own h5,by rw[h5.1],k o ho hk⟩
 obtain⟨i,hi⟩:=List.getElem?_of_mem hx
 obtain⟨y,hy⟩:=getLen he.1.symm hi
 rw[(he.2 i x y hi hy).1]
 exact h4 y (List.mem_of_getElem? hy)
theorem LeL.ceq {xs ys zs:List V} (h:ys=zs) (k:LeL xs zs):LeL xs ys:=h ▸ k
end
theorem PCall.weak {f:FuncId} {xs ys:List V} {r:D} (h:PCall P f ys r) (k:LeL xs ys):PCall P f xs r :=
 ⟨h.fn,fun C w us hgl hl hrel=>h.out C w us hgl (by rw[hl]; exact k.1) fun j y u hy hu=>by
  obtain⟨x,hx⟩:=getLen k.1 hy
  exact(hrel j x u hx hu).le (k.2 j x y hx hy)⟩
theorem PCall.to {f:FuncId} {xs:List V} {r r' : D} (h:PCall P f xs r) (k:LeD r r'):PCall P f xs r' :=
 ⟨h.fn,fun C w us hgl hl hrel=>(h.out C w us hgl hl hrel).mono fun e w' ⟨u,he,hd,hb⟩=>⟨u,he,hd.le k,hb⟩⟩
theorem Ql3 {f:FuncId} {fn:Func} {c:Code} {us:Array Value} {G:Gh} {w:World} {B:Nat×Nat} {Q:Exit→St→Prop} {σ0:St} {R:Ending→World→Prop} (hf:P.funcs[f]? = some fn) (hb:fn.body=some c) (h:T B P fn.ntmps c Q σ0)
  (hR:Rel fn.ntmps G σ0 { tmps:=us++Array.replicate (fn.ntmps-us.size) undef,defers:=[] } w)
  (hQ:∀ e G' σ' a' w', Ex B G w G' w' → Rel fn.ntmps G' σ' a' w' → Q e σ' → (e = .normal∨e = .ret)∧∃ v,(results fn a'.tmps).run P w' = .ok v w' ∧ R (.returned v) w'):Calls P f us w R:=by
 refine callsIn_wide.1 (callsIn_of_wp_marks (F:=Fence.wide) (n:=0) hf hb trivial (wpIn_mono (h.out none ⟨w.heap.size,[]⟩ G _ w hR (.none rfl)) ?_))
 rintro e a' w' ⟨G', σ', hE,hR', hF', hq⟩
 have key:∀ (Ds:List Nat) (w' : World),Ds.Nodup→Ex B G w G' w' → Rel fn.ntmps G' σ' a' w' → (∀ b ∈ Ds,w.heap.size≤b∧w'.heap[b]? = some (.deferred (some []))∧b ∉ G'.name∧∀ T ∈ G'.tok,¬ T.has b)→LeavesInM Fence.wide 0 P fn a'.tmps R (Ds.map markOf) .returning w' := by
  intro Ds
  induction Ds with
  | nil=>exact fun w' _ hE hR' _=>(hQ e G' σ' a' w' hE hR' hq).2
  | cons b Ds ih =>
   intro w' hnd hE hR' hD
   obtain⟨d1,d2,d3,d4⟩:=hD b (by simp)
   have hnb:¬ G'.has b:=fun hh=>hh.elim d3 fun⟨T,hT,ht⟩=>d4 T hT ht
   have hk:Kept G'.has G'.com w' (w'.putObj b (.deferred none)):=Qj5 _ d2 (Q3s d2) hnb
   refine⟨by simp,.inl ⟨b,_,rfl,run_takeDeferred d2,ih _ (List.nodup_cons.1 hnd).2 (hE.kept hk fun i hi=>World.putObj_heap_other (by omega)) (hR'.kept hk) fun i hi=>?_⟩⟩
   obtain⟨k1,k2,k3⟩:=hD i (by simp[hi])
   refine⟨k1,?_,k3⟩
   rw[World.putObj_heap_other (fun(e:i=b)=>(List.nodup_cons.1 hnd).1 (e ▸ hi))]
   exact k2
 obtain⟨Ds,m1,m2,m3⟩:=hF'.marks
 have hl:=key Ds w' m2 hE hR' m3
 rw[List.append_nil] at m1
 rw[← m1] at hl
 rcases (hQ e G' σ' a' w' hE hR' hq).1 with rfl | rfl
 ·exact hl
 ·exact hl
theorem PCall.ofB (hm:P.follows .mixedOrders=true) (hT:TblOk P tb) {f:FuncId} {fn:Func} {c:Code} (lv:List (Nat×List Nat)) (hf:P.funcs[f]? = some fn) (hb:fn.body=some c) (hn:isFn P f=true) {args:List V} (hN:args.length≤fn.ntmps) {r:D}
  (h:bwp (0,0) P tb fn.ntmps lv c (retQ tb fn.results.toList fun d=>LeD d r) ⟨args0 args 0,⟨[],[]⟩⟩):PCall P f args r:=by
 refine⟨hn,fun C w us hgl hl hrel=>?_⟩
 have hR:Rel fn.ntmps ⟨fun b o=>C b o∧b<w.heap.size,[],[]⟩ ⟨args0 args 0,⟨[],[]⟩⟩ { tmps:=us++Array.replicate (fn.ntmps-us.size) undef,defers:=[] } w:=by
  refine⟨⟨fun b o h=>⟨h.2,by simp,by simp⟩,rfl,by simp,fun i b cs h=>by simp at h,rfl,fun t T b h=>by simp at h,fun T h=>by simp at h,hgl.mono fun b o u h1 h2=>⟨⟨h1,cellLt h2⟩,h2⟩⟩,fun t d hd=>?_,by simp; omega⟩
  obtain⟨x,h1,h2,rfl⟩:=Qr0 args 0 t d hd
  have hlt:t<args.length:=(List.getElem?_eq_some_iff.1 h1).1
  have hlt2:t<us.size:=by omega
  refine⟨by simp; omega,.p x _ (DRel.lt ?_)⟩
  refine hrel t x _ h1 ?_
  simp only[Array.getD_eq_getD_getElem?,Array.getElem?_append_left hlt2,Array.getElem?_eq_getElem hlt2,Option.getD_some]
 refine Ql3 hf hb (Qai hm hT c _ _ h) hR fun e G' σ' a' w' hE hR' hq=>?_
 have key:∀ (hq:resAll tb σ' fn.results.toList fun ds=>match retD ds with | some d=>LeD d r | none=>False),∃ v,(results fn a'.tmps).run P w' = .ok v w' ∧
   ∃ u,Ending.returned v = .returned u∧DRel ⟨fun b o=>C b o∨w.heap.size≤b,[],[]⟩ w' r u∧Below w.heap.size w w' := fun hq=>by
  obtain⟨ds,us', h1,h2,h3,h4⟩:=Qgg hT hR' _ _ hq
  split at h4
  ·rename_i d hd
   obtain⟨k1,k2⟩:=Q4t h2 h3 hd
   refine⟨if h:us'.toArray.size=1 then us'.toArray[0] else .tuple us'.toArray,?_,_,rfl,DRel.le ?_ h4,⟨hE.ext.os,hE.ext.tape,hE.ext.output,hE.ext.size,fun k hk=>hE.ext.old k hk (by simp) (by simp)⟩⟩
   ·unfold results
    rw[Sem.run_bind,Array.mapM_eq_mapM_toList,Sem.run_map]
    erw [h1]
    rfl
   ·have hcom:∀ b o,G'.com b o→C b o∨w.heap.size≤b:=fun b o hc=>by
     rcases hE.ext.new b o hc with h | h | h | ⟨T,h,_⟩
     ·exact .inl h.1
     ·exact .inr h
     ·simp at h
     ·simp at h
    rcases k2 with ⟨x,rfl⟩ | ⟨xs,rfl⟩
    ·generalize (if h:us'.toArray.size=1 then us'.toArray[0] else Value.tuple us'.toArray)=q at k1
     cases k1 with
     | p _ _ k1=>exact .p _ _ (k1.mono (Nat.le_refl _) fun b o u h1 h2=>⟨hcom b o h1,h2⟩)
    ·generalize (if h:us'.toArray.size=1 then us'.toArray[0] else Value.tuple us'.toArray)=q at k1
     cases k1 with
     | tup _ vs l1 l2 =>
      refine .tup _ _ l1 (fun j c u hc hu=>?_)
      have:=l2 j c u hc hu
      rw[List.getElem?_map] at hc
      obtain⟨x,-,rfl⟩:=Option.map_eq_some_iff.1 hc
      cases this with
      | p _ _ k1=>exact .p _ _ (k1.mono (Nat.le_refl _) fun b o u h1 h2=>⟨hcom b o h1,h2⟩)
  ·exact h4.elim
 cases e with
 | normal=>exact⟨.inl rfl,key hq⟩
 | ret=>exact⟨.inr rfl,key hq⟩
 | _=>exact hq.elim
theorem Qah {α R:Type} {x:Option α} {f : α → Option R} {r:R} {g:FuncId} (xs:List V) (t : α → D) {gn:Bool} {s:S} {K:D→S→Prop} (h:(x>>=f)=some r) (hok:∀ y,x=some y→PCall P g xs (t y)) (k:∀ y,x=some y→f y=some r→K (t y) s) :
  ∃ r s', CallC gn P g (xs.map .p) s r s' ∧ K r s' := Qag h fun y hy hf=>⟨t y,s,(hok y hy).c,k y hy hf⟩
theorem Qfn {α R:Type} {x:Option α} {f : α → Option R} {r:R} {g:FuncId} (xs:List V) (t : α → D) {base:Nat} {s:S} {K:D→S→Prop} (h:(x>>=f)=some r) (hok:∀ y,x=some y→PCall P g xs (t y)) (k:∀ y,x=some y→f y=some r→K (t y) s) :
  ∃ r s', CallD base P g (xs.map .p) s r s' ∧ K r s' := Qag h fun y hy hf=>⟨t y,s,(hok y hy).d,k y hy hf⟩
theorem Qch {α R:Type} {x:Option α} {f : α → Option R} {r:R} {g:FuncId} {args:List D} {s:S} (t : α → D) (s' : α → S) {K:D→S→Prop} (h:(x>>=f)=some r) (hok:∀ y,x=some y→CallOK P g args s (t y) (s' y)) (k:∀ y,x=some y→f y=some r→K (t y) (s' y)) :
  ∃ r s', CallC true P g args s r s' ∧ K r s' := Qag h fun y hy hf=>⟨t y,s' y,(hok y hy).g,k y hy hf⟩
theorem Q49 {α R:Type} {x:Option α} {f : α → Option R} {r:R} {g:FuncId} {args:List D} {s:S} {base:Nat} (t : α → D) {K:D→S→Prop} (h:(x>>=f)=some r) (hok:∀ y,x=some y→CallD base P g args s (t y) s) (k:∀ y,x=some y→f y=some r→K (t y) s) :
  ∃ r s', CallD base P g args s r s' ∧ K r s' := Qag h fun y hy hf=>⟨t y,s,hok y hy,k y hy hf⟩
theorem CallX.weakC {E:Value→Ending} {f:FuncId} {args args' : List D} {s:S} {r:D} {s' : S} (k:CallX E P f args' s r s') (h:LeC args args'):CallX E P f args s r s' := k.weak h.get.1 h.get.2
def selOk (m n:Nat) (J:List Nat):Bool:=nodupB J&&J.all (Nat.blt · n)&&(J.take m==List.range m)
theorem Qqr {n i:Nat} (h:i<n):(List.range n)[i]? = some i:=List.getElem?_range h
theorem Q1t {α : Type} (A B:List α) (d : α):(List.range A.length).map ((A++B).getD · d)=A:=by
 apply List.ext_getElem?
 intro i
 rw[List.getElem?_map]
 by_cases h:i<A.length
 ·rw[Qqr h]
  simp[List.getD,List.getElem?_append_left h,h]
 ·rw[List.getElem?_eq_none (by simpa using Nat.le_of_not_lt h),List.getElem?_eq_none (Nat.le_of_not_lt h)]; rfl
theorem Q9o {G G' : Gh} {w w' : World} {n m:Nat} {J:List Nat} (hE:Ex (n,m) G w G' w') (hn:G.name.length=n) (hm:G.tok.length=m) (hn' : n≤G'.name.length) (hJ:∀ j ∈ J,j<G'.tok.length) (hid:J.take m=List.range m):Stp G w (G'.sub (List.range n) J) w' := by
 have hI:∀ i ∈ List.range n,i<G'.name.length:=fun i hi=>by have:=List.mem_range.1 hi; omega
 refine⟨⟨hE.ext.os,hE.ext.tape,hE.ext.output,hE.ext.size,hE.ext.com,hE.ext.old,hE.ext.new,fun b hb=>?_,hE.ext.mono,hE.ext.shp⟩,fun nm b hb=>?_,fun t T ht=>?_⟩
 ·rcases hb with hb | ⟨T,hT,hb⟩
  ·exact hE.ext.mine b (.inl (Qe1 hI hb))
  ·exact hE.ext.mine b (.inr ⟨T,Qe1 hJ hT,hb⟩)
 ·have hl:nm<n:=by rw[← hn]; exact(List.getElem?_eq_some_iff.1 hb).1
  rw[Qmn (Qqr hl) (by omega)]
  exact hE.name nm b hl hb
 ·have hl:t<m:=by rw[← hm]; exact(List.getElem?_eq_some_iff.1 ht).1
  obtain⟨T', h1,h2⟩:=hE.tok t T hl ht
  have hJt:J[t]? = some t:=by
   have:=congrArg (·[t]?) hid
   simp only[List.getElem?_take,if_pos hl,Qqr hl] at this
   exact this
  exact⟨T', by rw[Qny hJt (hJ t (List.mem_of_getElem? hJt))]; exact h1,h2⟩
structure EndR (n m:Nat) (s' : S) (r d:D) (t:S):Prop where
 ex:∃ J,selOk m t.live.length J=true∧LeD d (r.ren (List.range n) J)∧LeH (t.heap.take n) (s'.heap.map fun cs=>cs.map (D.ren (List.range n) J))∧J.map (t.live.getD · 0)=s'.live
theorem CallOK.ofT (hT:TblOk P tb) {f:FuncId} {fn:Func} {c:Code} (hf:P.funcs[f]? = some fn) (hb:fn.body=some c) (hn:isFn P f=true) {args:List D} (hN:args.length≤fn.ntmps) {s s' : S} {r:D}
  (hr:r.lt s.heap.length s'.live.length=true) (hs:s'.heap.all (fun cs=>cs.all (D.lt s.heap.length s'.live.length))=true)
  (hn' : s'.heap.length=s.heap.length)
  (h:T (s.heap.length,s.live.length) P fn.ntmps c (fun e σ => ∃ τ,Le (s.heap.length,s.live.length) fn.ntmps σ τ ∧ retR tb fn.results.toList (EndR s.heap.length s.live.length s' r) e τ) ⟨argsD args 0,s⟩):CallOK P f args s r s' := by
 refine⟨hn,fun G w us hI hl hrel=>?_⟩
 have hR:Rel fn.ntmps G ⟨argsD args 0,s⟩ { tmps:=us++Array.replicate (fn.ntmps-us.size) undef,defers:=[] } w:=by
  refine⟨hI,fun t d hd=>?_,by simp; omega⟩
  obtain⟨h1,h2⟩:=Qo2 args 0 t d hd
  have hlt:t<args.length:=(List.getElem?_eq_some_iff.1 h1).1
  have hlt2:t<us.size:=by omega
  refine⟨by simp; omega,?_⟩
  refine hrel t d _ h1 ?_
  simp only[Array.getD_eq_getD_getElem?,Array.getElem?_append_left hlt2,Array.getElem?_eq_getElem hlt2,Option.getD_some]
 have hln:G.name.length=s.heap.length:=hI.names
 have hlt:G.tok.length=s.live.length:=by rw[← hI.live]; simp
 refine Ql3 hf hb (T_up h fun e σ' hq=>hq) hR fun e G' σ' a' w' hE hR' hq=>?_
 have key:∀ (hq:resAll tb σ' fn.results.toList fun ds=>EndR s.heap.length s.live.length s' r (retE ds) σ'.s),∃ v,(results fn a'.tmps).run P w' = .ok v w' ∧
   ∃ u G', Ending.returned v = .returned u∧Stp G w G' w' ∧ Inv G' s' w' ∧ DRel G' w' r u:=fun hq=>by
  obtain⟨ds,us', h1,h2,h3,⟨J,hJ0,h4,h5,h6⟩⟩:=Qgg hT hR' _ _ hq
  unfold selOk at hJ0
  simp only[Bool.and_eq_true] at hJ0
  obtain⟨⟨hJ1,hJ2⟩,hJ3⟩:=hJ0
  have nJ:=Qdw J hJ1
  have bJ:=Qlb hJ2
  have lT:G'.tok.length = σ'.s.live.length:=by have:=congrArg List.length hR'.inv.live; simpa using this
  have hd:=(Q8f h2 h3).le h4
  have h7:=LeH.app h5 (LeH.refl (σ'.s.heap.drop s.heap.length))
  rw[List.take_append_drop] at h7
  have hinv1:=Inv.le (h := σ'.s.heap) (live := σ'.s.live) hR'.inv h7
  have hlen:(s'.heap.map fun cs=>cs.map (D.ren (List.range s.heap.length) J)).length=s.heap.length:=by rw[List.length_map]; exact hn'
  have hlJ:J.length=s'.live.length:=by rw[← h6]; simp
  have hnl:s.heap.length≤G'.name.length:=by rw[hinv1.names]; simp only[List.length_append,hlen]; omega
  have hinv2:Inv (G'.sub (List.range s.heap.length) J) ⟨s'.heap,s'.live⟩ w' := hinv1.sub (I:=List.range s.heap.length) (J:=J) List.nodup_range nJ (fun i hi=>by have:=List.mem_range.1 hi; simp only[List.length_append,hlen]; omega) bJ (by
   have:=Q1t (s'.heap.map fun cs=>cs.map (D.ren (List.range s.heap.length) J)) (σ'.s.heap.drop s.heap.length) []
   rw[hlen] at this
   exact this) h6 (by rw[List.length_range,hlJ]; exact hs)
  have hst:Stp G w (G'.sub (List.range s.heap.length) J) w' := Q9o hE hln hlt hnl (fun j hj=>by rw[lT]; exact bJ j hj) (by simpa using hJ3)
  refine⟨if h:us'.toArray.size=1 then us'.toArray[0] else .tuple us'.toArray,?_,_,_,rfl,hst,hinv2,Qyu (fun i hi=>by have:=List.mem_range.1 hi; omega) (fun j hj=>by rw[lT]; exact bJ j hj) (by rw[List.length_range,hlJ]; exact hr) hd⟩
  unfold results
  rw[Sem.run_bind,Array.mapM_eq_mapM_toList,Sem.run_map]
  erw [h1]
  rfl
 cases e with
 | normal=>exact⟨.inl rfl,key hq⟩
 | ret=>exact⟨.inr rfl,key hq⟩
 | _=>exact hq.elim
theorem CallOK.ofB (hm:P.follows .mixedOrders=true) (hT:TblOk P tb) {f:FuncId} {fn:Func} {c:Code} (lv:List (Nat×List Nat)) (hf:P.funcs[f]? = some fn) (hb:fn.body=some c) (hn:isFn P f=true) {args:List D} (hN:args.length≤fn.ntmps) {s s' : S} {r:D}
  (hr:r.lt s.heap.length s'.live.length=true) (hs:s'.heap.all (fun cs=>cs.all (D.lt s.heap.length s'.live.length))=true)
  (hn' : s'.heap.length=s.heap.length)
  (h:bwp (s.heap.length,s.live.length) P tb fn.ntmps lv c (fun e σ => ∃ τ,Le (s.heap.length,s.live.length) fn.ntmps σ τ ∧ retR tb fn.results.toList (EndR s.heap.length s.live.length s' r) e τ) ⟨argsD args 0,s⟩):CallOK P f args s r s' :=
 CallOK.ofT hT hf hb hn hN hr hs hn' (Qai hm hT c _ _ h)
theorem Qf6 {α : Type} {x y : α} {d:D} {u:S} {n m:Nat} {t : α → D} {ss : α → S} (h:some x=some y) (k:EndR n m (ss x) (t x) d u):EndR n m (ss y) (t y) d u:=by cases h; exact k
theorem Qal {α : Type} {x y : α} {d:D} {t : α → D} (h:some x=some y) (k:LeD d (t x)):LeD d (t y):=by cases h; exact k
end
section
variable {P:Program} {tb:Tbl}
def pubC (heap:List (List D)):D→Option V
 | .ptr nm off=>match heap[nm]? with
  | some cs=>(unps cs).map fun vs =>.ep (vs.drop off)
  | none=>none
 | d=>unp d
def pubL (heap:List (List D)):List D→Option (List V)
 | []=>some []
 | d::r=>match pubC heap d,pubL heap r with
  | some x,some y=>some (x::y)
  | _,_=>none
def pubD (heap:List (List D)):D→Option D
 | .fn f [] cap=>(pubL heap cap).map fun vs =>.fn f [] (vs.map .p)
 | .agg cs=>(pubL heap cs).map fun vs =>.p (.agg vs)
 | d=>(pubC heap d).map .p
def pubR (heap:List (List D)):List D→Option D
 | [d]=>pubD heap d
 | ds=>(pubL heap ds).map fun xs =>.tup (xs.map .p)
theorem Qx8:∀ {cs:List D} {vs:List V},unps cs=some vs→noMap cs=true
 | [],_,_=>rfl
 | d::r,vs,h=>by
  unfold unps at h
  split at h
  ·rename_i x y hx hy
   have ih:=Qx8 hy
   cases d with
   | p x=>exact ih
   | own t e s es=>exact ih
   | _=>cases hx
  ·cases h
theorem Qtw {G:Gh} {s:S} {w:World} (hI:Inv G s w) {d:D} {x:V} {u:Value} (h:DRel G w d u) (hd:pubC s.heap d=some x):VRel (fun b o=>G.com b o∨b ∈ G.name) w x u:=by
 have up:∀ {y:V} {v:Value},VRel G.com w y v→VRel (fun b o=>G.com b o∨b ∈ G.name) w y v:=fun h=>h.mono (Nat.le_refl _) fun b o u h1 h2=>⟨.inl h1,h2⟩
 unfold pubC at hd
 split at hd
 ·rename_i nm off
  cases h with
  | ptr _ _ b hb =>
   split at hd
   ·rename_i cs hcs
    obtain⟨vs,hv,rfl⟩:=Option.map_eq_some_iff.1 hd
    obtain⟨us,ty,h1,h2,h3⟩:=(hI.var nm b cs hb hcs).row (Qx8 hv)
    obtain⟨l1,l2⟩:=Qib (G:=G) (w:=w) cs vs hv
    refine .ep _ b off (fun k=>us.getD (off+k) undef) (fun k c hk=>?_) (fun k c hk=>?_)
    all_goals
     rw[List.getElem?_drop] at hk
     obtain⟨d,hd,hx⟩:=l2 _ c hk
     have hlt:off+k<us.size:=by rw[h2]; exact(List.getElem?_eq_some_iff.1 hd).1
     obtain⟨g1,g2⟩:=h3 _ d us[off+k] hd (Array.getElem?_eq_getElem hlt)
     have hg:us.getD (off+k) undef=us[off+k]:=by simp[Array.getD_eq_getD_getElem?,hlt]
    ·refine⟨.inr (List.mem_of_getElem? hb),?_,by rw[hg]; exact g1⟩
     rw[cell_of_row w b _ us ty (0,0) h1,hg]
     exact Array.getElem?_eq_getElem hlt
    ·show VRel _ w c (us.getD (off+k) undef)
     rw[hg]; exact up (Qes g2 hx)
   ·cases hd
 ·exact up (Qes h hd)
theorem Qtx {G:Gh} {s:S} {w:World} (hI:Inv G s w):∀ (ds:List D) (xs:List V),pubL s.heap ds=some xs→xs.length=ds.length∧∀ (j:Nat) x,xs[j]? = some x→∃ d,ds[j]? = some d∧pubC s.heap d=some x
 | [],xs,h=>by simp[pubL] at h; subst h; exact⟨rfl,fun j x hx=>by simp at hx⟩
 | d::r,xs,h=>by
  unfold pubL at h
  split at h
  ·rename_i x y hx hy
   cases h
   obtain⟨h1,h2⟩:=Qtx hI r y hy
   refine⟨by simp[h1],fun j z hz=>?_⟩
   cases j with
   | zero=>simp at hz; subst hz; exact⟨d,rfl,hx⟩
   | succ j=>exact h2 j z hz
  ·cases h
theorem Q8q {G:Gh} {s:S} {w:World} (hI:Inv G s w) {d d' : D} {u:Value} (h:DRel G w d u) (hd:pubD s.heap d=some d'):DRel ⟨fun b o=>G.com b o∨b ∈ G.name,[],[]⟩ w d' u:=by
 unfold pubD at hd
 split at hd
 ·rename_i f cap
  obtain⟨vs,hv,rfl⟩:=Option.map_eq_some_iff.1 hd
  obtain⟨l1,l2⟩:=Qtx hI cap vs hv
  cases h with
  | fn _ _ _ us ws k1 k2 k3 k4 =>
   refine .fn f [] _ us ws k1 (by simp[l1,k2]) (fun j c u hc=>by simp at hc) (fun j c u hc hu=>?_)
   rw[List.getElem?_map] at hc
   obtain⟨x,hx,rfl⟩:=Option.map_eq_some_iff.1 hc
   obtain⟨d,hd,hp⟩:=l2 j x hx
   exact .p _ _ (Qtw hI (k4 j d u hd hu) hp)
 ·rename_i cs
  obtain⟨vs,hv,rfl⟩:=Option.map_eq_some_iff.1 hd
  obtain⟨l1,l2⟩:=Qtx hI cs vs hv
  cases h with
  | agg _ us k1 k2 k3 =>
   refine .p _ _ (.agg _ us (by rw[l1,k1]) (fun j c u hc hu=>?_) (fun j c u hc hu=>?_))
   ·obtain⟨d,hd,-⟩:=l2 j c hc
    exact k2 j d u hd hu
   ·obtain⟨d,hd,hp⟩:=l2 j c hc
    exact Qtw hI (k3 j d u hd hu) hp
 ·obtain⟨x,hx,rfl⟩:=Option.map_eq_some_iff.1 hd
  exact .p _ _ (Qtw hI h hx)
theorem Q8r {G:Gh} {s:S} {w:World} (hI:Inv G s w) {ds:List D} {us:List Value} (hl:us.length=ds.length) (h:∀ (j:Nat) d u,ds[j]? = some d→us[j]? = some u→DRel G w d u) {r:D} (hr:pubR s.heap ds=some r) :
  DRel ⟨fun b o=>G.com b o∨b ∈ G.name,[],[]⟩ w r (if h:us.toArray.size=1 then us.toArray[0] else .tuple us.toArray):=by
 unfold pubR at hr
 split at hr
 ·rename_i d
  match us,hl with
  | [u],_=>exact Q8q hI (h 0 d u rfl rfl) hr
 ·rename_i hne
  obtain⟨xs,hx,rfl⟩:=Option.map_eq_some_iff.1 hr
  obtain⟨u1,u2⟩:=Qtx hI ds xs hx
  have hsz:¬ us.toArray.size=1:=by
   simp only[List.size_toArray,hl]
   intro h1
   match ds,h1 with
   | [d],_=>exact hne d rfl
  rw[dif_neg hsz]
  refine .tup _ _ (by simp[u1,hl]) (fun j c u hc hu=>?_)
  rw[List.getElem?_map] at hc
  obtain⟨x,hx', rfl⟩:=Option.map_eq_some_iff.1 hc
  obtain⟨d,hd,hxd⟩:=u2 j x hx'
  exact .p _ _ (Qtw hI (h j d u hd (by simpa using hu)) hxd)
def retM (tb:Tbl) (rs:List ResultVar) (R:D→Prop) (e:Exit) (σ : St):Prop :=
 match e with
 | .normal=>resAll tb σ rs fun ds=>match pubR σ.s.heap ds with | some d=>R d | none=>False
 | .ret=>resAll tb σ rs fun ds=>match pubR σ.s.heap ds with | some d=>R d | none=>False
 | _=>False
theorem PCall.ofM (hm:P.follows .mixedOrders=true) (hT:TblOk P tb) {f:FuncId} {fn:Func} {c:Code} (lv:List (Nat×List Nat)) (hf:P.funcs[f]? = some fn) (hb:fn.body=some c) (hn:isFn P f=true) {args:List V} (hN:args.length≤fn.ntmps) {r:D}
  (h:bwp (0,0) P tb fn.ntmps lv c (retM tb fn.results.toList fun d=>LeD d r) ⟨args0 args 0,⟨[],[]⟩⟩):PCall P f args r:=by
 refine⟨hn,fun C w us hgl hl hrel=>?_⟩
 have hR:Rel fn.ntmps ⟨fun b o=>C b o∧b<w.heap.size,[],[]⟩ ⟨args0 args 0,⟨[],[]⟩⟩ { tmps:=us++Array.replicate (fn.ntmps-us.size) undef,defers:=[] } w:=by
  refine⟨⟨fun b o h=>⟨h.2,by simp,by simp⟩,rfl,by simp,fun i b cs h=>by simp at h,rfl,fun t T b h=>by simp at h,fun T h=>by simp at h,hgl.mono fun b o u h1 h2=>⟨⟨h1,cellLt h2⟩,h2⟩⟩,fun t d hd=>?_,by simp; omega⟩
  obtain⟨x,h1,h2,rfl⟩:=Qr0 args 0 t d hd
  have hlt:t<args.length:=(List.getElem?_eq_some_iff.1 h1).1
  have hlt2:t<us.size:=by omega
  refine⟨by simp; omega,.p x _ (DRel.lt ?_)⟩
  refine hrel t x _ h1 ?_
  simp only[Array.getD_eq_getD_getElem?,Array.getElem?_append_left hlt2,Array.getElem?_eq_getElem hlt2,Option.getD_some]
 refine Ql3 hf hb (Qai hm hT c _ _ h) hR fun e G' σ' a' w' hE hR' hq=>?_
 have key:∀ (hq:resAll tb σ' fn.results.toList fun ds=>match pubR σ'.s.heap ds with | some d=>LeD d r | none=>False),∃ v,(results fn a'.tmps).run P w' = .ok v w' ∧
   ∃ u,Ending.returned v = .returned u∧DRel ⟨fun b o=>C b o∨w.heap.size≤b,[],[]⟩ w' r u∧Below w.heap.size w w' := fun hq=>by
  obtain⟨ds,us', h1,h2,h3,h4⟩:=Qgg hT hR' _ _ hq
  split at h4
  ·rename_i d hd
   refine⟨if h:us'.toArray.size=1 then us'.toArray[0] else .tuple us'.toArray,?_,_,rfl,DRel.le (DRel.weak (Q8r hR'.inv h2 h3 hd) fun b o hc=>?_) h4,⟨hE.ext.os,hE.ext.tape,hE.ext.output,hE.ext.size,fun k hk=>hE.ext.old k hk (by simp) (by simp)⟩⟩
   ·unfold results
    rw[Sem.run_bind,Array.mapM_eq_mapM_toList,Sem.run_map]
    erw [h1]
    rfl
   ·rcases hc with hc | hc
    ·rcases hE.ext.new b o hc with h | h | h | ⟨T,h,_⟩
     ·exact .inl h.1
     ·exact .inr h
     ·simp at h
     ·simp at h
    ·rcases hE.ext.mine b (.inl hc) with h | h | ⟨T,h,_⟩
     ·exact .inr h
     ·simp at h
     ·simp at h
  ·exact h4.elim
 cases e with
 | normal=>exact⟨.inl rfl,key hq⟩
 | ret=>exact⟨.inr rfl,key hq⟩
 | _=>exact hq.elim
def IEnd (N:Nat) (xs:List (List V)) (e:Exit) (σ : St):Prop :=
 ((e = .normal∨e = .ret)∧Le (0,1) N σ ⟨[],⟨[],[xs.length]⟩⟩)∨((e = .normal∨e = .ret)∧Le (0,1) N σ ⟨[],⟨[],[xs.length+1]⟩⟩)
theorem IterOK.ofB (hm:P.follows .mixedOrders=true) (hT:TblOk P tb) {f:FuncId} {fn:Func} {c:Code} (lv:List (Nat×List Nat)) (hf:P.funcs[f]? = some fn) (hb:fn.body=some c) (hn:isFn P f=true) {cap:List V} {xs:List (List V)} (hN:cap.length+1≤fn.ntmps)
  (hres:fn.results.toList=[]) (h:bwp (0,1) P tb fn.ntmps lv c (fun e σ => ∃ τ,Le (0,1) fn.ntmps σ τ ∧ IEnd fn.ntmps xs e τ) ⟨argsD (.yld P 0 xs::cap.map .p) 0,⟨[],[0]⟩⟩):IterOK P f cap xs:=by
 refine⟨hn,fun G w us hI hl hrel=>?_⟩
 have hlen:(D.yld P 0 xs::cap.map .p).length=cap.length+1:=by simp
 have hR:Rel fn.ntmps G ⟨argsD (.yld P 0 xs::cap.map .p) 0,⟨[],[0]⟩⟩ { tmps:=us++Array.replicate (fn.ntmps-us.size) undef,defers:=[] } w:=by
  refine⟨hI,fun t d hd=>?_,by simp; omega⟩
  obtain⟨h1,h2⟩:=Qo2 _ 0 t d hd
  have hlt:t<(D.yld P 0 xs::cap.map .p).length:=(List.getElem?_eq_some_iff.1 h1).1
  have hlt2:t<us.size:=by omega
  refine⟨by simp; omega,?_⟩
  refine hrel t d _ h1 ?_
  simp only[Array.getD_eq_getD_getElem?,Array.getElem?_append_left hlt2,Array.getElem?_eq_getElem hlt2,Option.getD_some]
 refine Ql3 hf hb (T_up (Qai hm hT c _ _ h) fun e σ' hq=>hq) hR fun e G' σ' a' w' hE hR' hq=>?_
 have hnm:G.name.length≤0:=by rw[hI.names]; exact Nat.le_refl _
 have htk:G.tok.length≤1:=by have:=congrArg List.length hI.live; simp at this; omega
 have hrun:∃ v,(results fn a'.tmps).run P w' = .ok v w' ∧ ∀ G,DRel G w' (.tup []) v:=by
  have e1:fn.results = #[]:=by rw[← Array.toArray_toList (xs:=fn.results),hres]
  refine⟨.tuple #[],?_,fun G =>.tup [] #[] rfl fun j c u hc=>by simp at hc⟩
  unfold results
  rw[e1]
  simp
 obtain⟨v,hv,hvr⟩:=hrun
 rcases hq with ⟨he,hle⟩ | ⟨he,hle⟩
 ·obtain⟨G2,e2,r2⟩:=hle.out G' a' w' hR'
  exact⟨he,v,hv,v,G2,.tup [],_,rfl,(hE.trans e2).stp hnm htk,r2.inv,hvr _,.inl rfl⟩
 ·obtain⟨G2,e2,r2⟩:=hle.out G' a' w' hR'
  exact⟨he,v,hv,v,G2,.tup [],_,rfl,(hE.trans e2).stp hnm htk,r2.inv,hvr _,.inr rfl⟩
end
@[reducible] def wr (n:Int):Int:=IntKind.i64.wrap n
def nV (k:IntKind) (n:Int):V :=.v (.int k n)
def cInt (n:Int):List V:=[iV n]
def cNum (k:IntKind) (n:Int):List V:=[nV k n]
def cStr (l:List UInt8):List V:=[sV l]
def cSl {α : Type} (c : α → List V) (l:List α):List V:=[.sl false (l.map c)]
end Go.Proofs.YtfgegilhjlnohaaGreat
end

section
set_option linter.unusedVariables false
namespace Go.Proofs.YtfgegilhjlnohaaGreat
open Go.RowKit
theorem RelL.of_le {xs ys:List V} (h:LeL xs ys):RelL xs ys:=fun C w us hu hr=>⟨hu.trans h.1,fun j y u hy hu=>by
 obtain⟨x,hx⟩:=getLen h.1 hy
 exact(hr j x u hx hu).le (h.2 j x y hx hy)⟩
def b2s (l:List Int):Option (List UInt8):=if l.all (fun n=>decide (0≤n∧n≤255))=true then some (l.map fun n=>UInt8.ofNat n.toNat) else none
theorem Q1u {R:Type} {l:List Int} {f:List UInt8→Option R} {r:R} {lv:List Nat} {K:D→List Nat→Prop} (h:(b2s l>>=f)=some r) (k:∀ m,b2s l=some m→f m=some r→K (.p (.v (strOf m))) lv) :
  ∃ m:List UInt8,l.map (cNum .u8)=m.map byteV∧∃ d' live,LeD (.p (.v (strOf m))) d' ∧ live=lv∧K d' live:=by
 refine Qag h fun m hm hf=>?_
 have hk:=k m hm hf
 refine⟨m,?_,_,_,.refl _,rfl,hk⟩
 unfold b2s at hm
 split at hm
 ·rename_i hl
  cases hm
  rw[List.map_map]
  refine List.map_congr_left fun n hn=>?_
  have:=List.all_eq_true.1 hl n hn
  simp only[decide_eq_true_eq] at this
  obtain⟨N,rfl⟩:∃ N:Nat,n=(N:Int):=⟨n.toNat,by omega⟩
  have hN:N≤255:=by omega
  simp only[Function.comp,cNum,nV,byteV,Int.toNat_natCast,UInt8.toNat_ofNat']
  rw[Nat.mod_eq_of_lt (by omega)]
 ·cases hm
def s2b (l:List UInt8):List Int:=l.map fun x=>(x.toNat:Int)
theorem Q7c (a:List Int) (b:List UInt8):a.map (cNum .u8)++b.map byteV=(a++s2b b).map (cNum .u8):=by
 rw[List.map_append]
 unfold s2b
 rw[List.map_map]
 rfl
theorem Q5a {R:Type} {bytes:Nat} {a:List Int} {b:List UInt8} {sz tk e:Nat} {f:List Int→Option R} {r:R} {lv:List Nat} {K:D→List Nat→Prop} (h:(appL bytes a (s2b b)>>=f)=some r) (hl:lv[tk]? = some (a.map (cNum .u8)).length)
  (k:∀ o,appL bytes a (s2b b)=some o→f o=some r→K (.own tk e sz (o.map (cNum .u8))) (lv.set tk (o.map (cNum .u8)).length)) :
  lv[tk]? = some (a.map (cNum .u8)).length∧(((a.map (cNum .u8)).length+b.length)*bytes≤140737488355328∧(a.map (cNum .u8)).length+b.length≤9223372036854775807) ∧
   ∃ d' live,LeD (.own tk e sz (a.map (cNum .u8)++b.map byteV)) d' ∧ live=lv.set tk (a.map (cNum .u8)++b.map byteV).length∧K d' live:=by
 refine Qag h fun o ho hf=>?_
 have hk:=k o ho hf
 unfold appL at ho
 split at ho
 ·rename_i hc
  cases ho
  rw[Q7c,List.length_map]
  simp only[s2b,List.length_map] at hc
  exact⟨by rw[List.length_map] at hl; exact hl,hc,_,_,.refl _,rfl,hk⟩
 ·cases ho
def rgP:Code→List Nat
 | .rangeFunc _ ps _ _=>ps.toList
 | _=>[]
def rgA:Code→Code
 | .rangeFunc _ _ a _=>a
 | _ =>.skip
def rgB:Code→Code
 | .rangeFunc _ _ _ b=>b
 | _ =>.skip
section
variable {P:Program}
theorem Qy5 {α R:Type} {x:Option α} {f : α → Option R} {r:R} {g:FuncId} {args:List D} {s:S} {base:Nat} (t : α → D) (s' : α → S) {K:D→S→Prop} (h:(x>>=f)=some r) (hok:∀ y,x=some y→CallT base P g args s (t y) (s' y)) (k:∀ y,x=some y→f y=some r→K (t y) (s' y)) :
  ∃ r s', CallT base P g args s r s' ∧ K r s' := Qag h fun y hy hf=>⟨t y,s' y,hok y hy,k y hy hf⟩
theorem Qy6 {k m N:Nat} {ps:List Nat} {asn body:Code} {env:Env} {Q:Exit→St→Prop} {α : Type} {c : α → List V} {x : α} {r:List α} {s:S}
  (h:T (k,m) P N asn (fun e σ1=>e = .normal∧T (k,m) P N body (fun e σ2=>∃ s', Le (k,m) N ⟨[],σ2.s⟩ ⟨[],s'⟩∧s'.heap.length=k∧s'.live.length=m ∧
   match e with
   | .normal=>RL k m P N ps asn body env Q (r.map c) s'
   | .ret=>Q .ret ⟨env,s'⟩
   | .exit i=>Q (.exit i) ⟨env,s'⟩
   | _=>False) σ1) ⟨putP ps (c x) env,s⟩):RL k m P N ps asn body env Q ((x::r).map c) s:=h
theorem Q5b {k m N:Nat} {ps:List Nat} {asn body:Code} {env:Env} {Q:Exit→St→Prop} {α : Type} {c : α → List V} {s:S} (h:Q .normal ⟨env,s⟩):RL k m P N ps asn body env Q (([]:List α).map c) s:=h
def Stop (B:Nat×Nat) (N:Nat) (xs:List (List V)) (σ : St):Prop:=∃ s', Le B N σ ⟨[],s'⟩∧s'.heap.length=B.1∧s'.live.length=B.2∧s'.live[0]? = some (xs.length+1)
def Qs (B:Nat×Nat) (N:Nat) (xs:List (List V)) (J:Exit→St→Prop) (e:Exit) (σ : St):Prop:=J e σ ∨ (e = .ret∧Stop B N xs σ)
theorem env0 {B:Nat×Nat} {N:Nat} {env:Env} {s:S}:Le B N ⟨env,s⟩ ⟨[],s⟩:=⟨fun G a w hR=>⟨G,.refl B G w,⟨hR.inv,fun t d h=>by simp at h,hR.size⟩⟩⟩
theorem le01 {N:Nat} {σ : St} {n:Nat} (h : σ.s.live[0]? = some n):Le (0,1) N σ ⟨[],⟨[],[n]⟩⟩:=by
 obtain⟨env,s⟩ := σ
 refine env0.trans (Le.tow 0 1 rfl .nil .nil ?_ (Nat.le_refl _) (Nat.le_refl _) rfl)
 cases hs:s.live with
 | nil=>simp[hs] at h
 | cons a l=>simp[hs] at h; simp[h]
theorem Q8s {N:Nat} {xs:List (List V)} {σ : St} (h : σ.s.live[0]? = some (xs.length+1)):Stop (0,1) N xs σ := ⟨_,le01 h,rfl,rfl,rfl⟩
theorem Q5c {N:Nat} {xs:List (List V)} {e:Exit} {σ : St} (he:e = .normal∨e = .ret) (h : σ.s.live[0]? = some (xs.length+1)):∃ τ,Le (0,1) N σ τ ∧ IEnd N xs e τ := ⟨_,le01 h,.inr ⟨he,.refl _ _ _⟩⟩
theorem Q7d {α O:Type} {c : α → List V} {N:Nat} {xs pre:List (List V)} {e:Exit} {σ : St} {l:List α} {y o2:O} (h:some ([],y)=some (l,o2)) (hx:xs=pre++(l.map c++[])) (he:e = .normal∨e = .ret) (hl : σ.s.live[0]? = some pre.length):∃ τ,Le (0,1) N σ τ ∧ IEnd N xs e τ := by
 cases h
 have:xs.length=pre.length:=by rw[hx]; simp
 refine⟨_,le01 hl,.inl ⟨he,?_⟩⟩
 rw[this]
 exact .refl _ _ _
theorem sndI {α O:Type} {l:List α} {y o2:O} (h:some (([]:List α),y)=some (l,o2)):some y=some o2:=by cases h; rfl
theorem liveQ {α O:Type} {c : α → List V} {xs pre gq post:List (List V)} {l:List α} {y o2:O} {L L' : List Nat} (h:some ([],y)=some (l,o2)) (hx:xs=pre++(l.map c++post)) (hq:xs=gq++post) (hl:L=pre.length::L'):L=gq.length::L' := by
 cases h
 have e1:xs.length=pre.length+post.length:=by rw[hx]; simp
 have e2:xs.length=gq.length+post.length:=by rw[hq]; simp
 rw[hl,show pre.length=gq.length by omega]
theorem joinS {B:Nat×Nat} {N:Nat} {xs:List (List V)} {J G:Exit→St→Prop} (k:∀ e σ,J e σ → ∃ τ,Le B N σ τ ∧ G e τ) (s:∀ s' : S,s'.heap.length=B.1→s'.live.length=B.2→s'.live[0]? = some (xs.length+1)→G .ret ⟨[],s'⟩):∀ e σ,Qs B N xs J e σ → ∃ τ,Le B N σ τ ∧ G e τ := fun e σ h=>by
 rcases h with h | ⟨rfl,s', h1,h2,h3,h4⟩
 ·exact k e σ h
 ·exact⟨_,h1,s s' h2 h3 h4⟩
theorem Q7e {α O:Type} {c : α → List V} {xs pre post:List (List V)} {x : α} {m:Option (List α × O)} {l:List α} {o2:O} {t:Nat} {ds:List D} {vs:List V} {s:S} {K:D→S→Prop}
  (h:(m>>=fun q=>some (x::q.1,q.2))=some (l,o2)) (hx:xs=pre++(l.map c++post)) (hl:LeL vs (c x)) (hu:unps ds=some vs) (hlive:s.live[t]? = some pre.length)
  (k1:∀ l', m=some (l', o2)→xs=(pre++[c x])++(l'.map c++post)→K (.p (.v (.bool true))) ⟨s.heap,s.live.set t (pre++[c x]).length⟩) (k2:K (.p (.v (.bool false))) ⟨s.heap,s.live.set t (xs.length+1)⟩) :
  true=true∧P=P∧aYield t xs ds s K:=by
 obtain⟨q,hm,hq⟩:=Option.bind_eq_some_iff.1 h
 cases hq
 have e:xs=(pre++[c x])++(q.1.map c++post):=by rw[hx]; simp
 refine⟨rfl,rfl,pre.length,c x,vs,hlive,?_,hu,.of_le hl,?_,k2⟩
 ·rw[hx]; simp
 ·have:=k1 q.1 hm e
  rw[List.length_append] at this
  exact this
theorem Qty {α O R:Type} {c : α → List V} {xs pre post:List (List V)} {m:Option (List α × O)} {f:List α × O→Option (List α × R)} {l:List α} {o2:R} {φ : Prop}
  (h:(m>>=fun o=>f o>>=fun q=>some (o.1++q.1,q.2))=some (l,o2)) (hx:xs=pre++(l.map c++post))
  (k:∀ o l2 gq,m=some o→f o=some (l2,o2)→xs=pre++(o.1.map c++(l2.map c++post))→xs=gq++(l2.map c++post) → φ) : φ := by
 obtain⟨o,ho,hf⟩:=Option.bind_eq_some_iff.1 h
 obtain⟨q,hq,he⟩:=Option.bind_eq_some_iff.1 hf
 cases he
 exact k o q.1 (pre++o.1.map c) ho hq (by rw[hx]; simp) (by rw[hx]; simp)
theorem Le.env0 {B:Nat×Nat} {N:Nat} (σ : St):Le B N σ ⟨[],σ.s⟩:=⟨fun G _ w hR=>⟨G,.refl B G w,⟨hR.inv,fun t d h=>by simp at h,hR.size⟩⟩⟩
theorem Q9p {α R:Type} {l:List α} {n:Int} {len:Nat} {c : α → V} {te:TI} {cs:List V} {f : α → Option R} {r:R} {s:S} {K:D→S→Prop} (h:(idx l n>>=f)=some r) (hc:cs=l.map c) (hl:l.length=len) (hz:te.size=1) (ha:isAggD te.d=false)
  (k:∀ x,idx l n=some x→f x=some r→K (.p (c x)) s):0≤n∧n<(len:Int)∧aPart te (.p (.agg cs)) (n.toNat*te.size) s K:=by
 refine Qag h fun x hx hf=>?_
 have hk:=k x hx hf
 unfold idx at hx
 split at hx
 ·rename_i hi
  have hlt:=(List.getElem?_eq_some_iff.1 hx).1
  refine⟨hi,by omega,?_⟩
  subst hc
  unfold aPart
  simp only[dcells,ha,hz,Nat.mul_one]
  rw[List.getElem?_map,List.getElem?_map,hx]
  exact hk
 ·cases hx
end
theorem Qy7 {α R:Type} {l:List α} {i:Int} {c c' : α → List V} {f : α → Option R} {r:R} {sz tk v:Nat} {lv:List Nat} {K:List V→Prop} (h:(idx l i>>=f)=some r) (hl:lv[tk]? = some v) (hc:∀ x,c x=c' x) (hs:∀ x,(c' x).length=sz) (hz:0<sz) (k:∀ x,idx l i=some x→f x=some r→K (c' x)) :
  lv[tk]? = some v∧∃ cell,0≤i∧(l.map c)[i.toNat]? = some cell∧cell.length=sz∧0<sz∧K cell:=⟨hl,Qa5 h hc hs hz k⟩
theorem Q7f {α R:Type} {bytes:Nat} {a b:List α} {c : α → List V} {fs:List (List V)} {sz tk v:Nat} {f:List α → Option R} {r:R} {lv:List Nat} {K:Nat→List (List V)→Prop} (h:(appL bytes a b>>=f)=some r) (hf:LeLL fs (b.map c)) (hs:∀ x,(c x).length=sz)
  (hl:lv[tk]? = some v) (k:∀ o,appL bytes a b=some o→f o=some r→K (v+1) (o.map c)) :
  lv[tk]? = some v∧((∀ x ∈ fs,x.length=sz)∧((a.map c).length+fs.length)*bytes≤140737488355328∧(a.map c).length+fs.length≤9223372036854775807)∧∃ v', v<v' ∧ ∃ es', LeLL (a.map c++fs) es' ∧ K v' es' := by
 refine Qag h fun o ho hk=>?_
 obtain⟨h1,h2,h3,-⟩:=appMap ho hf hs
 exact⟨hl,h1,_,Nat.lt_succ_self v,_,h2,k o ho hk⟩
theorem Q8t {α R:Type} {bytes:Nat} {a b:List α} {c : α → List V} {fs:List (List V)} {sz tk v:Nat} {f:List α → Option R} {r:R} {lv:List Nat} {K:Nat→List (List V)→Prop} (h:(appL bytes a b>>=f)=some r) (hf:LeLL fs (b.map c)) (hs:∀ x,(c x).length=sz)
  (hl:lv[tk]? = some v) (hv:v=a.length+1) (hb:0<b.length) (k:∀ o,appL bytes a b=some o→f o=some r→K (o.length+1) (o.map c)) :
  lv[tk]? = some v∧((∀ x ∈ fs,x.length=sz)∧((a.map c).length+fs.length)*bytes≤140737488355328∧(a.map c).length+fs.length≤9223372036854775807)∧∃ v', v<v' ∧ ∃ es', LeLL (a.map c++fs) es' ∧ K v' es' := by
 refine Qag h fun o ho hk=>?_
 obtain⟨h1,h2,h3,-⟩:=appMap ho hf hs
 have h4:o.length=a.length+b.length:=by
  have:=h2.1
  have h5:=hf.1
  simp only[List.length_append,List.length_map] at this h5
  omega
 exact⟨hl,h1,_,by omega,_,h2,k o ho hk⟩
theorem Q8u {α R:Type} {bytes:Nat} {a b:List α} {c : α → List V} {es fs:List (List V)} {sz:Nat} {f:List α → Option R} {r:R} {K:List (List V)→Prop} (h:(appL bytes a b>>=f)=some r) (he:LeLL es (a.map c)) (hf:LeLL fs (b.map c)) (hs:∀ x,(c x).length=sz) (hcl:a.length=0∨0<b.length)
  (k:∀ o,appL bytes a b=some o→f o=some r→K (o.map c)) :
  (es.length=0∨0<fs.length)∧(∀ x ∈ es,x.length=sz)∧((∀ x ∈ fs,x.length=sz)∧(es.length+fs.length)*bytes≤140737488355328∧es.length+fs.length≤9223372036854775807)∧∃ es', LeLL (es++fs) es' ∧ K es' := by
 obtain⟨h1,h2,h3,d', live,-⟩:=Q7b (e:=0) (lv:=[]) (f:=f) (r:=r) (K:=fun _ _=>True) h he hf hs hcl fun _ _ _=>trivial
 refine Qag h fun o ho hk=>?_
 have h5:LeLL (es++fs) (o.map c):=by
  unfold appL at ho
  split at ho
  ·cases ho; rw[List.map_append]; exact .app he hf
  ·cases ho
 exact⟨h1,h2,h3,_,h5,k o ho hk⟩
end Go.Proofs.YtfgegilhjlnohaaGreat
end

section
namespace Go.Proofs.YtfgegilhjlnohaaGreat
open Go.RowKit
abbrev mx:Nat:=9223372036854775807
@[simp] theorem Qav {α : Type} (l:List α) (i:Nat):idx l (i:Int)=l[i]? := by
 unfold idx
 rw[if_pos (by omega)]
 rfl
theorem Q31 {α : Type} (l:List α) (n:Nat):idx l (OfNat.ofNat n:Int)=l[n]? := Qav l n
@[simp] theorem idx_0 {α : Type} (l:List α):idx l 0=l[0]? := Qav l 0
@[simp] theorem idx_1 {α : Type} (l:List α):idx l 1=l[1]? := Qav l 1
@[simp] theorem Qad {α β : Type} (x : α) (f : α → Option β):(some x>>=f)=f x:=rfl
theorem wr_in {n:Int} (h1 : -9223372036854775808≤n) (h2:n≤9223372036854775807):wr n=n:=w64 h1 h2
theorem Qaq {i:Nat} (h:i<9223372036854775807):wr ((i:Int)+1)=((i+1:Nat):Int):=by rw[wr_in (by omega) (by omega)]; rfl
theorem Qgt {α : Type} {bytes:Nat} {a b:List α} (h:(a.length+b.length)*bytes≤140737488355328) (h2:a.length+b.length≤9223372036854775807):appL bytes a b=some (a++b):=by
 unfold appL; rw[if_pos ⟨h,h2⟩]
theorem Qld {α : Type} {l:List α} {lo hi:Int} (h1:0≤lo) (h2:lo≤hi) (h3:hi≤l.length):cutL l lo hi=some ((l.take hi.toNat).drop lo.toNat):=by
 unfold cutL; rw[if_pos ⟨h1,h2,h3⟩]
theorem Qhq {p:Prop} [Decidable p] (h:p):need p=some ():=by unfold need; rw[if_pos h]
theorem getE {α : Type} {l:List α} {i:Nat} (h:i<l.length):l[i]? = some l[i]:=List.getElem?_eq_getElem h
theorem ltI (a b:Nat):decide ((a:Int)<(b:Int))=decide (a<b):=by
 congr 1; exact propext Int.ofNat_lt
theorem upto {α : Type} {l : List α} {φ : Nat → Prop} (h0 : φ l.length) (h : ∀ i, i < l.length → φ (i + 1) → φ i) : ∀ i, i ≤ l.length → φ i := by
  have key : ∀ n i, l.length - i = n → i ≤ l.length → φ i := by
    intro n
    induction n with
    | zero => intro i h1 h2; have : i = l.length := by omega
              subst this; exact h0
    | succ n ih => intro i h1 h2; exact h i (by omega) (ih (i + 1) (by omega) (by omega))
  exact fun i hi => key _ i rfl hi
theorem dropE {α : Type} {l:List α} {i:Nat} (h:i<l.length):l.drop i=l[i]::l.drop (i+1):=List.drop_eq_getElem_cons h
end Go.Proofs.YtfgegilhjlnohaaGreat
end

section
namespace Go.Proofs
open Go.Shelf
def Tryz.lays137_ren:Go.Shelf.Ren:=⟨fun | 137=>169 | 217=>174 | 266=>183 | n=>n,fun | 9=>9 | 5=>5 | 3=>3 | n=>n,fun | n=>n⟩
theorem Tryz.lays137:Go.Proofs.Lays.n137 Tryz.prog Tryz.lays137_ren:={
 mixed:=by kernel_rfl
 f137:=Tryz.func169.trans (congrArg some (by kernel_rfl))
 f217:=Tryz.func174.trans (congrArg some (by kernel_rfl))
 f266:=Tryz.func183.trans (congrArg some (by kernel_rfl))
 t3:=Tryz.underlying3
 a3:=Tryz.isAgg3
 z3:=Tryz.sizeOf3
 v3:=Tryz.zeroValue3
 t5:=Tryz.underlying5
 a5:=Tryz.isAgg5
 z5:=Tryz.sizeOf5
 v5:=Tryz.zeroValue5
 t9:=Tryz.underlying9
 a9:=Tryz.isAgg9
 z9:=Tryz.sizeOf9
 v9:=Tryz.zeroValue9 }
open Go.RowKit in
theorem Tryz.strings_IndexByte (s:ByteArray) (c:Int) (w:World) :
  Calls Tryz.prog 169 #[.string s,.int .u8 c] w fun e w' => e = .returned (.int .i64 (Lib.indexByte s.data.toList c.toNat.toUInt8))∧w' = w:=Any.strings_IndexByte Tryz.lays137 s c w
def Tryz.lays217_ren:Go.Shelf.Ren:=⟨fun | 217=>174 | 266=>183 | n=>n,fun | 9=>9 | 5=>5 | 3=>3 | n=>n,fun | n=>n⟩
theorem Tryz.lays217:Go.Proofs.Lays.n217 Tryz.prog Tryz.lays217_ren:={
 mixed:=by kernel_rfl
 f217:=Tryz.func174.trans (congrArg some (by kernel_rfl))
 f266:=Tryz.func183.trans (congrArg some (by kernel_rfl))
 t3:=Tryz.underlying3
 a3:=Tryz.isAgg3
 z3:=Tryz.sizeOf3
 v3:=Tryz.zeroValue3
 t5:=Tryz.underlying5
 a5:=Tryz.isAgg5
 z5:=Tryz.sizeOf5
 v5:=Tryz.zeroValue5
 t9:=Tryz.underlying9
 a9:=Tryz.isAgg9
 z9:=Tryz.sizeOf9
 v9:=Tryz.zeroValue9 }
open Go.RowKit Go.Lib in
theorem Tryz.stringslite_IndexByte (s:ByteArray) (c:Int) (w:World) :
  Calls Tryz.prog 174 #[.string s,.int .u8 c] w fun e w' => e = .returned (.int .i64 (Lib.indexByte s.data.toList c.toNat.toUInt8))∧w' = w:=Any.stringslite_IndexByte Tryz.lays217 s c w
def Tryz.lays219_ren:Go.Shelf.Ren:=⟨fun | 219=>167 | 217=>174 | 225=>175 | 224=>176 | 267=>177 | 266=>183 | 314=>184 | n=>n,fun | 9=>9 | 3=>3 | 4=>4 | 5=>5 | 46=>43 | 146=>210 | 51=>135 | n=>n,fun | 1=>0 | n=>n⟩
theorem Tryz.lays219:Go.Proofs.Lays.n219 Tryz.prog Tryz.lays219_ren:={
 mixed:=by kernel_rfl
 f217:=Tryz.func174.trans (congrArg some (by kernel_rfl))
 f219:=Tryz.func167.trans (congrArg some (by kernel_rfl))
 f224:=Tryz.func176.trans (congrArg some (by kernel_rfl))
 f225:=Tryz.func175.trans (congrArg some (by kernel_rfl))
 f266:=Tryz.func183.trans (congrArg some (by kernel_rfl))
 f267:=Tryz.func177.trans (congrArg some (by kernel_rfl))
 f314:=Tryz.func184.trans (congrArg some (by kernel_rfl))
 t3:=Tryz.underlying3
 a3:=Tryz.isAgg3
 z3:=Tryz.sizeOf3
 v3:=Tryz.zeroValue3
 t4:=Tryz.underlying4
 a4:=Tryz.isAgg4
 z4:=Tryz.sizeOf4
 v4:=Tryz.zeroValue4
 t5:=Tryz.underlying5
 a5:=Tryz.isAgg5
 z5:=Tryz.sizeOf5
 v5:=Tryz.zeroValue5
 t9:=Tryz.underlying9
 a9:=Tryz.isAgg9
 z9:=Tryz.sizeOf9
 v9:=Tryz.zeroValue9
 t46:=Tryz.underlying43
 a46:=Tryz.isAgg43
 z46:=Tryz.sizeOf43
 v46:=Tryz.zeroValue43
 t51:=Tryz.underlying135
 a51:=Tryz.isAgg135
 z51:=Tryz.sizeOf135
 v51:=Tryz.zeroValue135
 t146:=Tryz.underlying210
 a146:=Tryz.isAgg210
 z146:=Tryz.sizeOf210
 v146:=Tryz.zeroValue210
 g1:=by kernel_rfl }
open Go.RowKit Go.Lib in
theorem Tryz.stringslite_Index (s sub:ByteArray) (m:Int) (w:World) (hs:s.size<4294967281) (hm:w.cell? ⟨0,0,none⟩=some (.int .i64 m)) :
  Calls Tryz.prog 167 #[.string s,.string sub] w fun e w' => e = .returned (.int .i64 (Lib.index s.data.toList sub.data.toList))∧w' = w:=Any.stringslite_Index Tryz.lays219 s sub m w hs hm
def Tryz.lays143_ren:Go.Shelf.Ren:=⟨fun | 143=>153 | 219=>167 | 217=>174 | 225=>175 | 224=>176 | 267=>177 | 266=>183 | 314=>184 | n=>n,fun | 9=>9 | 3=>3 | 4=>4 | 5=>5 | 46=>43 | 146=>210 | 51=>135 | n=>n,fun | 1=>0 | n=>n⟩
theorem Tryz.lays143:Go.Proofs.Lays.n143 Tryz.prog Tryz.lays143_ren:={
 mixed:=by kernel_rfl
 f143:=Tryz.func153.trans (congrArg some (by kernel_rfl))
 f217:=Tryz.func174.trans (congrArg some (by kernel_rfl))
 f219:=Tryz.func167.trans (congrArg some (by kernel_rfl))
 f224:=Tryz.func176.trans (congrArg some (by kernel_rfl))
 f225:=Tryz.func175.trans (congrArg some (by kernel_rfl))
 f266:=Tryz.func183.trans (congrArg some (by kernel_rfl))
 f267:=Tryz.func177.trans (congrArg some (by kernel_rfl))
 f314:=Tryz.func184.trans (congrArg some (by kernel_rfl))
 t3:=Tryz.underlying3
 a3:=Tryz.isAgg3
 z3:=Tryz.sizeOf3
 v3:=Tryz.zeroValue3
 t4:=Tryz.underlying4
 a4:=Tryz.isAgg4
 z4:=Tryz.sizeOf4
 v4:=Tryz.zeroValue4
 t5:=Tryz.underlying5
 a5:=Tryz.isAgg5
 z5:=Tryz.sizeOf5
 v5:=Tryz.zeroValue5
 t9:=Tryz.underlying9
 a9:=Tryz.isAgg9
 z9:=Tryz.sizeOf9
 v9:=Tryz.zeroValue9
 t46:=Tryz.underlying43
 a46:=Tryz.isAgg43
 z46:=Tryz.sizeOf43
 v46:=Tryz.zeroValue43
 t51:=Tryz.underlying135
 a51:=Tryz.isAgg135
 z51:=Tryz.sizeOf135
 v51:=Tryz.zeroValue135
 t146:=Tryz.underlying210
 a146:=Tryz.isAgg210
 z146:=Tryz.sizeOf210
 v146:=Tryz.zeroValue210
 g1:=by kernel_rfl }
open Go.RowKit Go.Lib in
theorem Tryz.strings_Index (s sub:ByteArray) (m:Int) (w:World) (hs:s.size<4294967281) (hm:w.cell? ⟨0,0,none⟩=some (.int .i64 m)) :
  Calls Tryz.prog 153 #[.string s,.string sub] w fun e w' => e = .returned (.int .i64 (Lib.index s.data.toList sub.data.toList))∧w' = w:=Any.strings_Index Tryz.lays143 s sub m w hs hm
def Tryz.lays144_ren:Go.Shelf.Ren:=⟨fun | 144=>127 | 143=>153 | 219=>167 | 217=>174 | 225=>175 | 224=>176 | 267=>177 | 266=>183 | 314=>184 | n=>n,fun | 9=>9 | 4=>4 | 3=>3 | 5=>5 | 46=>43 | 146=>210 | 51=>135 | n=>n,fun | 1=>0 | n=>n⟩
theorem Tryz.lays144:Go.Proofs.Lays.n144 Tryz.prog Tryz.lays144_ren:={
 mixed:=by kernel_rfl
 f143:=Tryz.func153.trans (congrArg some (by kernel_rfl))
 f144:=Tryz.func127.trans (congrArg some (by kernel_rfl))
 f217:=Tryz.func174.trans (congrArg some (by kernel_rfl))
 f219:=Tryz.func167.trans (congrArg some (by kernel_rfl))
 f224:=Tryz.func176.trans (congrArg some (by kernel_rfl))
 f225:=Tryz.func175.trans (congrArg some (by kernel_rfl))
 f266:=Tryz.func183.trans (congrArg some (by kernel_rfl))
 f267:=Tryz.func177.trans (congrArg some (by kernel_rfl))
 f314:=Tryz.func184.trans (congrArg some (by kernel_rfl))
 t3:=Tryz.underlying3
 a3:=Tryz.isAgg3
 z3:=Tryz.sizeOf3
 v3:=Tryz.zeroValue3
 t4:=Tryz.underlying4
 a4:=Tryz.isAgg4
 z4:=Tryz.sizeOf4
 v4:=Tryz.zeroValue4
 t5:=Tryz.underlying5
 a5:=Tryz.isAgg5
 z5:=Tryz.sizeOf5
 v5:=Tryz.zeroValue5
 t9:=Tryz.underlying9
 a9:=Tryz.isAgg9
 z9:=Tryz.sizeOf9
 v9:=Tryz.zeroValue9
 t46:=Tryz.underlying43
 a46:=Tryz.isAgg43
 z46:=Tryz.sizeOf43
 v46:=Tryz.zeroValue43
 t51:=Tryz.underlying135
 a51:=Tryz.isAgg135
 z51:=Tryz.sizeOf135
 v51:=Tryz.zeroValue135
 t146:=Tryz.underlying210
 a146:=Tryz.isAgg210
 z146:=Tryz.sizeOf210
 v146:=Tryz.zeroValue210
 g1:=by kernel_rfl }
open Go.RowKit Go.Lib in
theorem Tryz.strings_Contains (s sub:ByteArray) (m:Int) (w:World) (hs:s.size<4294967281) (hm:w.cell? ⟨0,0,none⟩=some (.int .i64 m)) :
  Calls Tryz.prog 127 #[.string s,.string sub] w fun e w' => e = .returned (.bool (Lib.contains s.data.toList sub.data.toList))∧w' = w:=Any.strings_Contains Tryz.lays144 s sub m w hs hm
def Tryz.laysM219_ren:Go.Shelf.Ren:=⟨fun | 219=>167 | 217=>174 | 225=>175 | 224=>176 | 267=>177 | 266=>183 | 314=>184 | n=>n,fun | 9=>9 | 3=>3 | 4=>4 | 5=>5 | 46=>43 | 146=>210 | 51=>135 | n=>n,fun | 1=>0 | n=>n⟩
theorem Tryz.laysM219:Go.Proofs.LaysM.n219 Tryz.prog Tryz.laysM219_ren:={
 mixed:=by kernel_rfl
 f217:=Tryz.func174.trans (congrArg some (by kernel_rfl))
 f219:=Tryz.func167.trans (congrArg some (by kernel_rfl))
 f224:=Tryz.func176.trans (congrArg some (by kernel_rfl))
 f225:=Tryz.func175.trans (congrArg some (by kernel_rfl))
 f266:=Tryz.func183.trans (congrArg some (by kernel_rfl))
 f267:=Tryz.func177.trans (congrArg some (by kernel_rfl))
 f314:=Tryz.func184.trans (congrArg some (by kernel_rfl))
 t3:=Tryz.underlying3
 a3:=Tryz.isAgg3
 z3:=Tryz.sizeOf3
 v3:=Tryz.zeroValue3
 t4:=Tryz.underlying4
 a4:=Tryz.isAgg4
 z4:=Tryz.sizeOf4
 v4:=Tryz.zeroValue4
 t5:=Tryz.underlying5
 a5:=Tryz.isAgg5
 z5:=Tryz.sizeOf5
 v5:=Tryz.zeroValue5
 t9:=Tryz.underlying9
 a9:=Tryz.isAgg9
 z9:=Tryz.sizeOf9
 v9:=Tryz.zeroValue9
 t46:=Tryz.underlying43
 a46:=Tryz.isAgg43
 z46:=Tryz.sizeOf43
 v46:=Tryz.zeroValue43
 t51:=Tryz.underlying135
 a51:=Tryz.isAgg135
 z51:=Tryz.sizeOf135
 v51:=Tryz.zeroValue135
 t146:=Tryz.underlying210
 a146:=Tryz.isAgg210
 z146:=Tryz.sizeOf210
 v146:=Tryz.zeroValue210
 g1:=by kernel_rfl
 i3:=by kernel_rfl
 i4:=by kernel_rfl
 i5:=by kernel_rfl
 i9:=by kernel_rfl
 i46:=by kernel_rfl
 i51:=by kernel_rfl
 i146:=by kernel_rfl
 m1:=by kernel_rfl
 s1_3:=fun w h=>Go.Proofs.cell_of_shapedOpen_int (zero := #[.int .i64 0]) (t:=3) h (of_decide_eq_true (by kernel_rfl)) (by kernel_rfl) rfl (by kernel_rfl) (by kernel_rfl) Tryz.underlying3 }
def Tryz.lays100_ren:Go.Shelf.Ren:=⟨fun | 100=>98 | 207=>129 | n=>n,fun | 9=>9 | 4=>4 | 3=>3 | n=>n,fun | n=>n⟩
theorem Tryz.lays100:Go.Proofs.Lays.n100 Tryz.prog Tryz.lays100_ren:={
 mixed:=by kernel_rfl
 f100:=Tryz.func98.trans (congrArg some (by kernel_rfl))
 f207:=Tryz.func129.trans (congrArg some (by kernel_rfl))
 t3:=Tryz.underlying3
 a3:=Tryz.isAgg3
 z3:=Tryz.sizeOf3
 v3:=Tryz.zeroValue3
 t4:=Tryz.underlying4
 a4:=Tryz.isAgg4
 z4:=Tryz.sizeOf4
 v4:=Tryz.zeroValue4
 t9:=Tryz.underlying9
 a9:=Tryz.isAgg9
 z9:=Tryz.sizeOf9
 v9:=Tryz.zeroValue9 }
open Go.RowKit Go.Lib in
theorem Tryz.strings_HasSuffix (s p:ByteArray) (w:World) (hs:s.size≤9223372036854775807) :
  Calls Tryz.prog 98 #[.string s,.string p] w fun e w' => e = .returned (.bool (Lib.hasSuffix s.data.toList p.data.toList))∧w' = w:=Any.strings_HasSuffix Tryz.lays100 s p w hs
def Tryz.lays194_ren:Go.Shelf.Ren:=⟨fun | 194=>100 | n=>n,fun | 31=>29 | 9=>9 | 3=>3 | 4=>4 | 0=>0 | n=>n,fun | n=>n⟩
theorem Tryz.lays194:Go.Proofs.Lays.n194 Tryz.prog Tryz.lays194_ren:={
 mixed:=by kernel_rfl
 f194:=Tryz.func100.trans (congrArg some (by kernel_rfl))
 t0:=Tryz.underlying0
 a0:=Tryz.isAgg0
 z0:=Tryz.sizeOf0
 v0:=Tryz.zeroValue0
 t3:=Tryz.underlying3
 a3:=Tryz.isAgg3
 z3:=Tryz.sizeOf3
 v3:=Tryz.zeroValue3
 t4:=Tryz.underlying4
 a4:=Tryz.isAgg4
 z4:=Tryz.sizeOf4
 v4:=Tryz.zeroValue4
 t9:=Tryz.underlying9
 a9:=Tryz.isAgg9
 z9:=Tryz.sizeOf9
 v9:=Tryz.zeroValue9
 t31:=Tryz.underlying29
 a31:=Tryz.isAgg29
 z31:=Tryz.sizeOf29
 v31:=Tryz.zeroValue29 }
def Tryz.laysNm224_ren:Go.Shelf.Ren:=⟨fun | 24=>53 | n=>n,fun | 24=>29 | 9=>9 | 3=>3 | 4=>4 | 0=>0 | n=>n,fun | n=>n⟩
theorem Tryz.laysNm224:Go.Proofs.Lays2.n24 Tryz.prog Tryz.laysNm224_ren:={
 mixed:=by kernel_rfl
 f24:=Tryz.func53.trans (congrArg some (by kernel_rfl))
 t0:=Tryz.underlying0
 a0:=Tryz.isAgg0
 z0:=Tryz.sizeOf0
 v0:=Tryz.zeroValue0
 t3:=Tryz.underlying3
 a3:=Tryz.isAgg3
 z3:=Tryz.sizeOf3
 v3:=Tryz.zeroValue3
 t4:=Tryz.underlying4
 a4:=Tryz.isAgg4
 z4:=Tryz.sizeOf4
 v4:=Tryz.zeroValue4
 t9:=Tryz.underlying9
 a9:=Tryz.isAgg9
 z9:=Tryz.sizeOf9
 v9:=Tryz.zeroValue9
 t24:=Tryz.underlying29
 a24:=Tryz.isAgg29
 z24:=Tryz.sizeOf29
 v24:=Tryz.zeroValue29
 i9:=by kernel_rfl }
open Go.RowKit Go.Lib Go.Sort in
theorem Tryz.slices_Delete_string (blk off cap i j:Nat) (zs:List (List UInt8)) (w:World) (hH:Holds encStr w blk off zs.toArray) (hcap:zs.length≤cap) (hm:cap≤9223372036854775807) (hij:i≤j) (hj:j≤zs.length) :
  Calls Tryz.prog 53 #[.slice (some ⟨blk,off,none⟩) zs.length cap,.int .i64 i,.int .i64 j] w fun e w' => e = .returned (.slice (some ⟨blk,off,none⟩) (zs.length-(j-i)) cap)∧∃ q,w' = putRow encStr (Sort.ahead w q) blk off (zs.take i++zs.drop j++List.replicate (j-i) []).toArray:=Any.slices_Delete_string Tryz.laysNm224 blk off cap i j zs w hH hcap hm hij hj
def Tryz.lays190_ren:Go.Shelf.Ren:=⟨fun | 190=>48 | 125=>82 | 258=>81 | 128=>113 | 129=>114 | 302=>104 | 303=>105 | 304=>106 | 305=>107 | 306=>108 | 307=>109 | 308=>110 | 309=>111 | 310=>112 | 333=>133 | 329=>134 | 330=>135 | 334=>136 | 335=>137 | 336=>138 | 344=>157 | n=>n,fun | 31=>29 | 9=>9 | 3=>3 | 46=>43 | 0=>0 | 51=>135 | 53=>137 | 4=>4 | 183=>128 | 182=>127 | 131=>132 | 5=>5 | 218=>162 | 222=>166 | 228=>191 | 229=>192 | n=>n,fun | n=>n⟩
theorem Tryz.lays190:Go.Proofs.Lays.n190 Tryz.prog Tryz.lays190_ren:={
 mixed:=by kernel_rfl
 f125:=Tryz.func82.trans (congrArg some (by kernel_rfl))
 f128:=Tryz.func113.trans (congrArg some (by kernel_rfl))
 f129:=Tryz.func114.trans (congrArg some (by kernel_rfl))
 f190:=Tryz.func48.trans (congrArg some (by kernel_rfl))
 f258:=Tryz.func81.trans (congrArg some (by kernel_rfl))
 f302:=Tryz.func104.trans (congrArg some (by kernel_rfl))
 f303:=Tryz.func105.trans (congrArg some (by kernel_rfl))
 f304:=Tryz.func106.trans (congrArg some (by kernel_rfl))
 f305:=Tryz.func107.trans (congrArg some (by kernel_rfl))
 f306:=Tryz.func108.trans (congrArg some (by kernel_rfl))
 f307:=Tryz.func109.trans (congrArg some (by kernel_rfl))
 f308:=Tryz.func110.trans (congrArg some (by kernel_rfl))
 f309:=Tryz.func111.trans (congrArg some (by kernel_rfl))
 f310:=Tryz.func112.trans (congrArg some (by kernel_rfl))
 f329:=Tryz.func134.trans (congrArg some (by kernel_rfl))
 f330:=Tryz.func135.trans (congrArg some (by kernel_rfl))
 f333:=Tryz.func133.trans (congrArg some (by kernel_rfl))
 f334:=Tryz.func136.trans (congrArg some (by kernel_rfl))
 f335:=Tryz.func137.trans (congrArg some (by kernel_rfl))
 f336:=Tryz.func138.trans (congrArg some (by kernel_rfl))
 f344:=Tryz.func157.trans (congrArg some (by kernel_rfl))
 t0:=Tryz.underlying0
 a0:=Tryz.isAgg0
 z0:=Tryz.sizeOf0
 v0:=Tryz.zeroValue0
 t3:=Tryz.underlying3
 a3:=Tryz.isAgg3
 z3:=Tryz.sizeOf3
 v3:=Tryz.zeroValue3
 t4:=Tryz.underlying4
 a4:=Tryz.isAgg4
 z4:=Tryz.sizeOf4
 v4:=Tryz.zeroValue4
 t5:=Tryz.underlying5
 a5:=Tryz.isAgg5
 z5:=Tryz.sizeOf5
 v5:=Tryz.zeroValue5
 t9:=Tryz.underlying9
 a9:=Tryz.isAgg9
 z9:=Tryz.sizeOf9
 v9:=Tryz.zeroValue9
 t31:=Tryz.underlying29
 a31:=Tryz.isAgg29
 z31:=Tryz.sizeOf29
 v31:=Tryz.zeroValue29
 t46:=Tryz.underlying43
 a46:=Tryz.isAgg43
 z46:=Tryz.sizeOf43
 v46:=Tryz.zeroValue43
 t51:=Tryz.underlying135
 a51:=Tryz.isAgg135
 z51:=Tryz.sizeOf135
 v51:=Tryz.zeroValue135
 t53:=Tryz.underlying137
 a53:=Tryz.isAgg137
 z53:=Tryz.sizeOf137
 v53:=Tryz.zeroValue137
 t131:=Tryz.underlying132
 a131:=Tryz.isAgg132
 z131:=Tryz.sizeOf132
 v131:=Tryz.zeroValue132
 t182:=Tryz.underlying127
 a182:=Tryz.isAgg127
 z182:=Tryz.sizeOf127
 v182:=Tryz.zeroValue127
 t183:=Tryz.underlying128
 a183:=Tryz.isAgg128
 z183:=Tryz.sizeOf128
 v183:=Tryz.zeroValue128
 t218:=Tryz.underlying162
 a218:=Tryz.isAgg162
 z218:=Tryz.sizeOf162
 v218:=Tryz.zeroValue162
 t222:=Tryz.underlying166
 a222:=Tryz.isAgg166
 z222:=Tryz.sizeOf166
 v222:=Tryz.zeroValue166
 t228:=Tryz.underlying191
 a228:=Tryz.isAgg191
 z228:=Tryz.sizeOf191
 v228:=Tryz.zeroValue191
 t229:=Tryz.underlying192
 a229:=Tryz.isAgg192
 z229:=Tryz.sizeOf192
 v229:=Tryz.zeroValue192 }
end Go.Proofs
end

section
namespace Go.Proofs.YtfgegilhjlnohaaGreat
open Go.RowKit
theorem PCall.ofCallsG {P:Program} {f:FuncId} {args:List V} {r:D} {R:Value} (hn:isFn P f=true) (hr:∀ G w,DRel G w r R)
  (h:∀ w us,(∃ C,GlobOk C w)→us.size=args.length→(∀ (j:Nat) x u,args[j]? = some x→us[j]? = some u→∃ C,VRel C w x u)→Calls P f us w fun e w' => e = .returned R∧Below w.heap.size w w'):PCall P f args r :=
 ⟨hn,fun C w us hg hs hrel=>(h w us ⟨C,hg⟩ hs fun j x u hx hu=>⟨_,hrel j x u hx hu⟩).mono fun _ _ ⟨he,hb⟩=>⟨R,he,hr _ _,hb⟩⟩
theorem Quo {C:Nat→Nat→Prop} {w:World} {l:List UInt8} {u:Value} (h:VRel C w (sV l) u):u = .string ⟨l.toArray⟩:=by cases h; rfl
theorem Q7g {C:Nat→Nat→Prop} {w:World} {k:IntKind} {n:Int} {u:Value} (h:VRel C w (.v (.int k n)) u):u = .int k n:=by cases h; rfl
theorem Qx9 {w w' : World} (h:w' = w):Below w.heap.size w w' := by subst h; exact Below.refl _ _
theorem Q7h {p:Prop} [Decidable p] {R:Type} {f:Unit→Option R} {r:R} (h:(need p>>=f)=some r):p∧f ()=some r:=by
 unfold need at h
 split at h
 ·exact⟨by assumption,h⟩
 ·cases h
theorem Q1v (l:List UInt8) (c:Int):PCall Tryz.prog 174 [sV l,nV .u8 c] (.p (iV (Lib.indexByte l c.toNat.toUInt8))):=by
 refine PCall.ofCallsG (by kernel_rfl) (fun _ _ =>.p _ _ (.v _ rfl)) fun w us _ hs h=>?_
 obtain⟨a,b,rfl⟩:=us2 hs
 obtain⟨_,h0⟩:=h 0 _ a rfl rfl
 obtain⟨_,h1⟩:=h 1 _ b rfl rfl
 rw[Quo h0,Q7g h1]
 exact(Tryz.stringslite_IndexByte _ c w).mono fun e w' ⟨he,hw⟩=>⟨he,Qx9 hw⟩
theorem Q8v (l s:List UInt8) (hl:l.length<4294967281):PCall Tryz.prog 167 [sV l,sV s] (.p (iV (Lib.index l s))):=by
 refine PCall.ofCallsG (by kernel_rfl) (fun _ _ =>.p _ _ (.v _ rfl)) fun w us hg hs h=>?_
 obtain⟨a,b,rfl⟩:=us2 hs
 obtain⟨_,h0⟩:=h 0 _ a rfl rfl
 obtain⟨_,h1⟩:=h 1 _ b rfl rfl
 obtain⟨_,hg⟩:=hg
 obtain⟨m,-,hm⟩:=hg.1 0 (by simp[globsL])
 rw[Quo h0,Quo h1]
 exact(Tryz.stringslite_Index _ _ m w (by show l.toArray.size<_; simpa using hl) hm).mono fun e w' ⟨he,hw⟩=>⟨he,Qx9 hw⟩
end Go.Proofs.YtfgegilhjlnohaaGreat
end

section
namespace Go.Proofs.YtfgegilhjlnohaaGreat
open Go.RowKit Go.Sort Go.Shelf
theorem Q1w (s:List UInt8):encStr s=strOf s:=rfl
theorem SRow.holds {w:World} {b e:Nat} {us:Array Value} {ss:List (List UInt8)} (h:SRow w b e us ss):Holds encStr w b 0 ss.toArray:=fun j hj=>by
 have hj:j<ss.length:=by simpa using hj
 have h1:=h.cell j ss[j] (List.getElem?_eq_getElem hj)
 have hus:j<us.size:=by have:=h.len; omega
 have e1:ss.toArray[j]! = ss[j]:=by simp[hj]
 rw[Nat.zero_add,e1,Q1w]
 refine⟨?_,?_⟩
 ·simp[World.cell?,h.row,h1]
 ·simp[World.frozen?,h.row]
theorem Qn1 {w:World} {b e n:Nat} {us:Array Value} {ss:List (List UInt8)} (h:SRow w b e us ss) (hn:us.size=n) (q:Nat) (d:Array (List UInt8)) (hd:d.size≤us.size) (ss' : List (List UInt8)) (hs:∀ (i:Nat) s,ss'[i]? = some s→d[i]? = some s) (os:Array Obj) :
  RowTurns w (grow (putRow encStr (Sort.ahead w q) b 0 d) os) b e n ss' := by
 have hbl:b<w.heap.size:=(Array.getElem?_eq_some_iff.1 h.row).1
 have hlen:ss'.length≤d.size:=by
  by_cases hz:ss'.length=0
  ·omega
  ·have:=hs (ss'.length-1) ss'[ss'.length-1] (List.getElem?_eq_getElem (by omega))
   have:=(Array.getElem?_eq_some_iff.1 this).1
   omega
 have hsz:(putRow encStr (Sort.ahead w q) b 0 d).heap.size=w.heap.size:=by simp[putRow,mapBlock,Sort.ahead]
 have hget:∀ k,k<w.heap.size→(grow (putRow encStr (Sort.ahead w q) b 0 d) os).heap[k]? = (putRow encStr (Sort.ahead w q) b 0 d).heap[k]? := fun k hk=>by
  show((putRow encStr (Sort.ahead w q) b 0 d).heap++os)[k]? = _
  rw[Array.getElem?_append_left (by omega)]
 refine⟨rfl,rfl,rfl,?_,fun k hk hne=>?_,putCells encStr 0 d us,⟨?_,?_,fun i s hi=>?_⟩,?_⟩
 ·show w.heap.size≤((putRow encStr (Sort.ahead w q) b 0 d).heap++os).size
  rw[Array.size_append]; omega
 ·rw[hget k hk]
  simp[putRow,mapBlock,Sort.ahead,Array.getElem?_modify,Ne.symm hne]
 ·rw[hget b hbl]
  simp[putRow,mapBlock,Sort.ahead,Array.getElem?_modify,h.row,onCells]
 ·simp[putCells]; omega
 ·have hd2:=hs i s hi
  have hil:=(Array.getElem?_eq_some_iff.1 hd2).1
  have e1:d[i]=s:=(Array.getElem?_eq_some_iff.1 hd2).2
  simp only[putCells,Array.getElem?_mapIdx]
  rw[Array.getElem?_eq_getElem (show i<us.size by omega)]
  simp[hil,Q1w,e1]
 ·simp[putCells,hn]
theorem sortFnT {P:Program} {ρ : Ren} (L:Lays.n190 P ρ) (hfn:isFn P (ρ.f 190)=true) (ss:List (List UInt8)) (hl:ss.length<4611686018427387904):FnT P (ρ.f 190) #[] false ss (ss.mergeSort fun x y=>decide (x≤y)):=by
 refine⟨hfn,by simp,fun _=>by simp,fun w a cap h1 h2=>⟨fun h0=>?_,fun b us e ha hus hc hS=>?_⟩⟩
 ·exact(calls_of_every_depth fun D=>AnyS.slices_Sort_string_none_alone L D a 0 w).mono fun en w' ⟨he,hw⟩=>⟨he,by rw[hw]; exact .refl _ _⟩
 ·subst ha
  refine(calls_of_every_depth fun D=>AnyS.slices_Sort_string_alone L D b 0 cap ss w hS.holds (Array.getElem?_eq_some_iff.1 hS.row).1 hl).mono fun en w' ⟨he,n,os,hw⟩=>⟨he,?_⟩
  rw[hw]
  exact Qn1 hS hus n _ (by simp; exact hS.len) _ (fun i s hi=>by simpa using hi) os
theorem Qup (zs:List (List UInt8)):(Lib.compact zs).length≤zs.length:=by
 unfold Lib.compact Lib.compactUpTo
 rw[List.length_map]
 have:=List.length_filter_le (Lib.keeps zs.toArray) (List.range zs.length)
 rwa [List.length_range] at this
theorem compactFnT {P:Program} {ρ : Ren} (L:Lays.n194 P ρ) (hfn:isFn P (ρ.f 194)=true) (ss:List (List UInt8)) (hl:ss.length<4611686018427387904):FnT P (ρ.f 194) #[] true ss (Lib.compact ss):=by
 refine⟨hfn,Qup ss,fun h=>(nomatch h),fun w a cap h1 h2=>⟨fun h0=>?_,fun b us e ha hus hc hS=>?_⟩⟩
 ·exact(calls_of_every_depth fun D=>AnyS.slices_Compact_string_empty_in L D a 0 w).mono fun en w' ⟨he,hw⟩=>⟨he,by rw[hw]; exact .refl _ _⟩
 ·subst ha
  refine(calls_of_every_depth fun D=>AnyS.slices_Compact_string_in L D b 0 cap ss w hS.holds (by omega) h1).mono fun en w' ⟨he,q,hw⟩=>⟨he,?_⟩
  have hcl:=Qup ss
  have:=Qn1 hS hus q (Lib.compact ss++List.replicate (ss.length-(Lib.compact ss).length) []).toArray (by simp; have:=hS.len; omega) (Lib.compact ss) (fun i s hi=>by
   have:=(List.getElem?_eq_some_iff.1 hi).1
   rw[List.getElem?_toArray,List.getElem?_append_left this]; exact hi) #[]
  rw[hw]
  simpa using this
end Go.Proofs.YtfgegilhjlnohaaGreat
end

section
namespace Go.Proofs.YtfgegilhjlnohaaGreat
open Go.RowKit
section
variable {P:Program} {tb:Tbl}
theorem Q8w {G G' : Gh} {w w' : World} {n m:Nat} {I J:List Nat} (hE:Ex (n,m) G w G' w') (hn:G.name.length=n) (hm:G.tok.length=m) (hI:∀ i ∈ I,i<G'.name.length) (hJ:∀ j ∈ J,j<G'.tok.length) (hdI:I.take n=List.range n) (hid:J.take m=List.range m):Stp G w (G'.sub I J) w' := by
 have low:∀ {K:List Nat} {m t:Nat},K.take m=List.range m→t<m→K[t]? = some t:=fun {K m t} h hl=>by
  have:=congrArg (·[t]?) h
  simp only[List.getElem?_take,if_pos hl,Qqr hl] at this
  exact this
 refine⟨⟨hE.ext.os,hE.ext.tape,hE.ext.output,hE.ext.size,hE.ext.com,hE.ext.old,hE.ext.new,fun b hb=>?_,hE.ext.mono,hE.ext.shp⟩,fun nm b hb=>?_,fun t T ht=>?_⟩
 ·rcases hb with hb | ⟨T,hT,hb⟩
  ·exact hE.ext.mine b (.inl (Qe1 hI hb))
  ·exact hE.ext.mine b (.inr ⟨T,Qe1 hJ hT,hb⟩)
 ·have hl:nm<n:=by rw[← hn]; exact(List.getElem?_eq_some_iff.1 hb).1
  have hk:=low hdI hl
  rw[Qmn hk (hI nm (List.mem_of_getElem? hk))]
  exact hE.name nm b hl hb
 ·have hl:t<m:=by rw[← hm]; exact(List.getElem?_eq_some_iff.1 ht).1
  obtain⟨T', h1,h2⟩:=hE.tok t T hl ht
  have hJt:=low hid hl
  exact⟨T', by rw[Qny hJt (hJ t (List.mem_of_getElem? hJt))]; exact h1,h2⟩
structure EndN (n m:Nat) (s' : S) (r d:D) (t:S):Prop where
 ex:∃ I J,selOk n t.heap.length I=true∧selOk m t.live.length J=true∧LeD d (r.ren I J)∧LeH (t.heap.take n) ((s'.heap.take n).map fun cs=>cs.map (D.ren I J)) ∧
  (I.drop n).map (t.heap.getD · [])=(s'.heap.drop n).map (fun cs=>cs.map (D.ren I J))∧J.map (t.live.getD · 0)=s'.live
def retEo (ds:List D):D:=match ds with
 | [d]=>d
 | ds =>.tup ds
def retRo (tb:Tbl) (rs:List ResultVar) (R:D→S→Prop) (e:Exit) (σ : St):Prop :=
 match e with
 | .normal=>resAll tb σ rs fun ds=>R (retEo ds) σ.s
 | .ret=>resAll tb σ rs fun ds=>R (retEo ds) σ.s
 | _=>False
theorem Q7i {G:Gh} {w:World} {ds:List D} {us:List Value} (hl:us.length=ds.length) (h:∀ (j:Nat) d u,ds[j]? = some d→us[j]? = some u→DRel G w d u) :
  DRel G w (retEo ds) (if h:us.toArray.size=1 then us.toArray[0] else .tuple us.toArray):=by
 unfold retEo
 split
 ·rename_i d
  match us,hl with
  | [u],_=>exact h 0 _ u rfl rfl
 ·rename_i hne
  have hsz:¬ us.toArray.size=1:=by
   intro h1
   have h2:ds.length=1:=by rw[← hl]; simpa using h1
   match ds,h2 with
   | [d],_=>exact hne d rfl
  rw[dif_neg hsz]
  exact .tup _ _ (by simp[hl]) fun j c u hc hu=>h j c u hc (by simpa using hu)
theorem CallOK.ofTN (hT:TblOk P tb) {f:FuncId} {fn:Func} {c:Code} (hf:P.funcs[f]? = some fn) (hb:fn.body=some c) (hn:isFn P f=true) {args:List D} (hN:args.length≤fn.ntmps) {s s' : S} {r:D}
  (hr:r.lt s'.heap.length s'.live.length=true) (hs:s'.heap.all (fun cs=>cs.all (D.lt s'.heap.length s'.live.length))=true)
  (hn' : s.heap.length≤s'.heap.length)
  (h:T (s.heap.length,s.live.length) P fn.ntmps c (fun e σ => ∃ τ,Le (s.heap.length,s.live.length) fn.ntmps σ τ ∧ retRo tb fn.results.toList (EndN s.heap.length s.live.length s' r) e τ) ⟨argsD args 0,s⟩):CallOK P f args s r s' := by
 refine⟨hn,fun G w us hI hl hrel=>?_⟩
 have hR:Rel fn.ntmps G ⟨argsD args 0,s⟩ { tmps:=us++Array.replicate (fn.ntmps-us.size) undef,defers:=[] } w:=by
  refine⟨hI,fun t d hd=>?_,by simp; omega⟩
  obtain⟨h1,h2⟩:=Qo2 args 0 t d hd
  have hlt:t<args.length:=(List.getElem?_eq_some_iff.1 h1).1
  have hlt2:t<us.size:=by omega
  refine⟨by simp; omega,?_⟩
  refine hrel t d _ h1 ?_
  simp only[Array.getD_eq_getD_getElem?,Array.getElem?_append_left hlt2,Array.getElem?_eq_getElem hlt2,Option.getD_some]
 have hln:G.name.length=s.heap.length:=hI.names
 have hlt:G.tok.length=s.live.length:=by rw[← hI.live]; simp
 refine Ql3 hf hb (T_up h fun e σ' hq=>hq) hR fun e G' σ' a' w' hE hR' hq=>?_
 have key:∀ (hq:resAll tb σ' fn.results.toList fun ds=>EndN s.heap.length s.live.length s' r (retEo ds) σ'.s),∃ v,(results fn a'.tmps).run P w' = .ok v w' ∧
   ∃ u G', Ending.returned v = .returned u∧Stp G w G' w' ∧ Inv G' s' w' ∧ DRel G' w' r u:=fun hq=>by
  obtain⟨ds,us', h1,h2,h3,⟨I,J,hI0,hJ0,h4,h5,h5b,h6⟩⟩:=Qgg hT hR' _ _ hq
  unfold selOk at hJ0 hI0
  simp only[Bool.and_eq_true] at hJ0 hI0
  obtain⟨⟨hI1,hI2⟩,hI3⟩:=hI0
  obtain⟨⟨hJ1,hJ2⟩,hJ3⟩:=hJ0
  have nI:=Qdw I hI1
  have nJ:=Qdw J hJ1
  have bI:=Qlb hI2
  have bJ:=Qlb hJ2
  have hI3' : I.take s.heap.length=List.range s.heap.length:=by simpa using hI3
  have lT:G'.tok.length = σ'.s.live.length:=by have:=congrArg List.length hR'.inv.live; simpa using this
  have lN:G'.name.length = σ'.s.heap.length:=hR'.inv.names
  have hd:=(Q7i h2 h3).le h4
  have h7:=LeH.app h5 (LeH.refl (σ'.s.heap.drop s.heap.length))
  rw[List.take_append_drop] at h7
  have hinv1:=Inv.le (h := σ'.s.heap) (live := σ'.s.live) hR'.inv h7
  have hlen:((s'.heap.take s.heap.length).map fun cs=>cs.map (D.ren I J)).length=s.heap.length:=by rw[List.length_map,List.length_take]; omega
  have hlI:I.length=s'.heap.length:=by
   have e1:=congrArg List.length h5b
   have e2:=congrArg List.length hI3'
   simp only[List.length_map,List.length_drop,List.length_take,List.length_range] at e1 e2
   omega
  have hlJ:J.length=s'.live.length:=by rw[← h6]; simp
  have hll:((s'.heap.take s.heap.length).map (fun cs=>cs.map (D.ren I J)) ++ σ'.s.heap.drop s.heap.length).length = σ'.s.heap.length:=by
   have:=hinv1.names
   rw[← this,lN]
  have up:∀ i ∈ I.drop s.heap.length,s.heap.length≤i:=fun i hi=>by
   refine Nat.le_of_not_lt fun hlt=>?_
   have e:(I.take s.heap.length++I.drop s.heap.length).Nodup:=by rw[List.take_append_drop]; exact nI
   refine(List.nodup_append.1 e).2.2 i ?_ i hi rfl
   rw[hI3']; exact List.mem_range.2 hlt
  have hinv2:Inv (G'.sub I J) ⟨s'.heap,s'.live⟩ w' := hinv1.sub (I:=I) (J:=J) nI nJ (fun i hi=>by rw[hll]; exact bI i hi) bJ (by
   have e:=Q1t ((s'.heap.take s.heap.length).map fun cs=>cs.map (D.ren I J)) (σ'.s.heap.drop s.heap.length) []
   rw[hlen] at e
   have e2:(I.drop s.heap.length).map (((s'.heap.take s.heap.length).map (fun cs=>cs.map (D.ren I J)) ++ σ'.s.heap.drop s.heap.length).getD · [])=(s'.heap.drop s.heap.length).map (fun cs=>cs.map (D.ren I J)):=by
    rw[← h5b]
    refine List.map_congr_left fun i hi=>?_
    have hi2:=up i hi
    simp only[List.getD]
    rw[List.getElem?_append_right (by omega),List.getElem?_drop,hlen]
    congr 2; omega
   have e3:I=List.range s.heap.length++I.drop s.heap.length:=by rw[← hI3', List.take_append_drop]
   have e4:s'.heap.map (fun cs=>cs.map (D.ren I J))=(s'.heap.take s.heap.length).map (fun cs=>cs.map (D.ren I J))++(s'.heap.drop s.heap.length).map (fun cs=>cs.map (D.ren I J)):=by rw[← List.map_append,List.take_append_drop]
   exact(congrArg (List.map _) e3).trans (by rw[List.map_append,e,e2,e4])) h6 (by rw[hlI,hlJ]; exact hs)
  have hst:Stp G w (G'.sub I J) w' := Q8w hE hln hlt (fun i hi=>by rw[lN]; exact bI i hi) (fun j hj=>by rw[lT]; exact bJ j hj) hI3' (by simpa using hJ3)
  refine⟨if h:us'.toArray.size=1 then us'.toArray[0] else .tuple us'.toArray,?_,_,_,rfl,hst,hinv2,Qyu (fun i hi=>by rw[lN]; exact bI i hi) (fun j hj=>by rw[lT]; exact bJ j hj) (by rw[hlI,hlJ]; exact hr) hd⟩
  unfold results
  rw[Sem.run_bind,Array.mapM_eq_mapM_toList,Sem.run_map]
  erw [h1]
  rfl
 cases e with
 | normal=>exact⟨.inl rfl,key hq⟩
 | ret=>exact⟨.inr rfl,key hq⟩
 | _=>exact hq.elim
theorem CallOK.ofBN (hm:P.follows .mixedOrders=true) (hT:TblOk P tb) {f:FuncId} {fn:Func} {c:Code} (lv:List (Nat×List Nat)) (hf:P.funcs[f]? = some fn) (hb:fn.body=some c) (hn:isFn P f=true) {args:List D} (hN:args.length≤fn.ntmps) {s s' : S} {r:D}
  (hr:r.lt s'.heap.length s'.live.length=true) (hs:s'.heap.all (fun cs=>cs.all (D.lt s'.heap.length s'.live.length))=true)
  (hn' : s.heap.length≤s'.heap.length)
  (h:bwp (s.heap.length,s.live.length) P tb fn.ntmps lv c (fun e σ => ∃ τ,Le (s.heap.length,s.live.length) fn.ntmps σ τ ∧ retRo tb fn.results.toList (EndN s.heap.length s.live.length s' r) e τ) ⟨argsD args 0,s⟩):CallOK P f args s r s' :=
 CallOK.ofTN hT hf hb hn hN hr hs hn' (Qai hm hT c _ _ h)
theorem Quq {α : Type} {x y : α} {d:D} {u:S} {n m:Nat} {t : α → D} {ss : α → S} (h:some x=some y) (k:EndN n m (ss x) (t x) d u):EndN n m (ss y) (t y) d u:=by cases h; exact k
theorem Qtz {α R:Type} {x:Option α} {f : α → Option R} {r:R} {g:FuncId} {args:List D} {s:S} (t : α → D) (s' : α → S) {K:D→S→Prop} (h:(x>>=f)=some r) (hok:∀ y,x=some y→CallOK P g args s (t y) (s' y)) (k:∀ y,x=some y→f y=some r→K (t y) (s' y)) :
  ∃ r s', CallOK P g args s r s' ∧ K r s' := Qag h fun y hy hf=>⟨t y,s' y,hok y hy,k y hy hf⟩
end
theorem Qjn {p:Prop} [Decidable p] {R:Type} {f:Unit→Option R} {r:R} {φ : Prop} (h:(need p>>=f)=some r) (k:p→f ()=some r → φ) : φ := by
 unfold need at h
 split at h
 ·rename_i hp; exact k hp h
 ·cases h
def noTD (t:Nat):D→Bool
 | .agg ds=>ds.all (noT1 t)
 | .tup ds=>ds.all (noT1 t)
 | .fn _ x y=>x.all (noT1 t)&&y.all (noT1 t)
 | d=>noT1 t d
def verOk (t q:Nat):Env→Bool
 | []=>false
 | (s,d)::r=>if s=q then r.all (fun p=>noTD t p.2) else noTD t d&&verOk t q r
theorem Q32 {t v v' : Nat} {d:D} (h:noT1 t d=true):ver1 t v v' d=d:=by
 cases d with
 | x t' w X =>
  have:t' ≠ t:=by simpa [noT1] using h
  simp[ver1,this]
 | _=>rfl
theorem Q9q {t v v' : Nat} {ds:List D} (h:ds.all (noT1 t)=true):ds.map (ver1 t v v')=ds:=by
 rw[List.all_eq_true] at h
 exact(List.map_congr_left (g:=id) fun d hd=>Q32 (h d hd)).trans (List.map_id ds)
theorem Q7j {t v v' : Nat} {d:D} (h:noTD t d=true):verD t v v' d=d:=by
 cases d with
 | agg ds=>exact congrArg D.agg (Q9q h)
 | x t' w X=>exact Q32 (d :=.x t' w X) h
 | _=>rfl
theorem Q7k {t v v' : Nat}:∀ {env:Env},env.all (fun p=>noTD t p.2)=true→verE t v v' env=env
 | [],_=>rfl
 | (s,d)::r,h=>by
  simp only[List.all_cons,Bool.and_eq_true] at h
  rw[verE,Q7j h.1,Q7k h.2]
theorem Q88 {t v:Nat} {d:D} (h:noTD t d=true):okT t v d=true:=by
 have one:∀ d:D,noT1 t d=true→okT1 t v d=true:=fun d h=>by
  cases d with
  | x t' w X=>have h:(t' != t)=true:=h; simp[okT1,h]
  | fn _ _ _=>cases h
  | agg _=>cases h
  | tup _=>cases h
  | sf _=>cases h
  | ef _=>cases h
  | _=>exact h
 cases d with
 | agg ds =>
  have h:ds.all (noT1 t)=true:=h
  rw[List.all_eq_true] at h
  exact List.all_eq_true.2 fun d hd=>one d (h d hd)
 | tup ds=>exact h
 | fn _ x y=>exact h
 | sf _=>cases h
 | ef _=>cases h
 | p x=>exact one (.p x) h
 | ptr a b=>exact one (.ptr a b) h
 | own a b c e=>exact one (.own a b c e) h
 | yld a b c=>exact one (.yld a b c) h
 | sp a b c d e=>exact one (.sp a b c d e) h
 | x a b c=>exact one (.x a b c) h
 | mh a=>exact one (.mh a) h
 | undef=>exact one .undef h
theorem Q7l {t q v v' : Nat} {X:XD}:∀ {env:Env},verOk t q env=true→env.lookup q=some (.x t v X)→verE t v v' env=setE env q (.x t v' X)∧env.all (fun p=>okT t v p.2)=true
 | [],h,_=>by cases h
 | (s,d)::r,h,hl=>by
  unfold verOk at h
  by_cases hs:s=q
  ·rw[if_pos hs] at h
   subst hs
   simp only[List.lookup_cons,beq_self_eq_true,Option.some.injEq] at hl
   subst hl
   refine⟨?_,?_⟩
   ·rw[verE,Q7k h,setE,if_pos rfl]; simp[verD,ver1]
   ·simp only[List.all_cons,Bool.and_eq_true]
    refine⟨by simp[okT,okT1],?_⟩
    rw[List.all_eq_true] at h ⊢
    exact fun p hp=>Q88 (h p hp)
  ·rw[if_neg hs] at h
   simp only[Bool.and_eq_true] at h
   have hb:(q==s)=false:=by simpa using Ne.symm hs
   rw[List.lookup_cons,hb] at hl
   obtain⟨e1,e2⟩:=Q7l h.2 hl
   refine⟨?_,?_⟩
   ·rw[verE,Q7j h.1,e1,setE,if_neg hs]
   ·simp only[List.all_cons,Bool.and_eq_true]; exact⟨Q88 h.1,e2⟩
def noTH (t:Nat):D→Bool
 | .tup [.p _]=>true
 | .fn _ x y=>x.all (noT1 t)&&y.all (noT1 t)
 | d=>noT1 t d
theorem Q9r {t v v' : Nat} {d:D} (h:noTH t d=true):ver1 t v v' d=d:=by
 cases d with
 | x t' w X=>exact Q32 (d :=.x t' w X) h
 | _=>rfl
theorem Q9s {t v:Nat} {d:D} (h:noTH t d=true):okT1 t v d=true:=by
 cases d with
 | x t' w X=>have h:(t' != t)=true:=h; simp[okT1,h]
 | fn _ _ _=>exact h
 | agg _=>cases h
 | tup ds =>
  match ds,h with
  | [.p _],_=>rfl
 | sf _=>cases h
 | ef _=>cases h
 | p x=>exact h
 | ptr a b=>exact h
 | own a b c e=>exact h
 | yld a b c=>exact h
 | sp a b c d e=>exact h
 | mh a=>exact h
 | undef=>exact h
theorem Le.verh {B:Nat×Nat} {N:Nat} {env:Env} {s:S} (q t v v' : Nat) {X:XD} (h:s.live[t]? = some v) (hg:env.lookup q=some (.x t v X)) (hE:verOk t q env=true) (hH:s.heap.all (fun cs=>cs.all (noTH t))=true)
  (hB:B.2≤t:=by exact Nat.le_of_ble_eq_true rfl):Le B N ⟨env,s⟩ ⟨setE env q (.x t v' X),⟨s.heap,s.live.set t v'⟩⟩:=by
 obtain⟨e1,e2⟩:=Q7l (v' := v') hE hg
 have e3:verH t v v' s.heap=s.heap:=by
  rw[Qtr]
  rw[List.all_eq_true] at hH
  refine(List.map_congr_left (g:=id) fun cs hc=>?_).trans (List.map_id s.heap)
  have:=hH cs hc
  rw[List.all_eq_true] at this
  exact(List.map_congr_left (g:=id) fun d hd=>Q9r (this d hd)).trans (List.map_id cs)
 have e4:s.heap.all (fun cs=>cs.all (okT1 t v))=true:=by
  rw[List.all_eq_true] at hH ⊢
  intro cs hc
  have:=hH cs hc
  rw[List.all_eq_true] at this ⊢
  intro d hd
  exact Q9s (this d hd)
 have:=Le.ver (B:=B) (N:=N) (env:=env) (s:=s) (.s q) t v v' h hg e2 e4 hB
 rwa [e1,e3] at this
def Gh.into (G:Gh) (t m n:Nat) (Tm:Tok):Gh:={ G with tok:=(G.tok.set t Tm).set m ⟨n+1,none,0,none⟩ }
theorem Q5d {G:Gh} {t m n:Nat} {Tm:Tok} (hm:G.tok[m]? = some Tm) {x:Nat} {T:Tok} (h:(G.into t m n Tm).tok[x]? = some T):(x=m∧T=⟨n+1,none,0,none⟩)∨(x≠m∧x=t∧T=Tm)∨(x≠m∧x≠t∧G.tok[x]? = some T):=by
 have h:((G.tok.set t Tm).set m ⟨n+1,none,0,none⟩)[x]? = some T:=h
 have hml:=(List.getElem?_eq_some_iff.1 hm).1
 by_cases hx:x=m
 ·subst hx
  rw[List.getElem?_set_self (by simpa using hml)] at h
  cases h; exact .inl ⟨rfl,rfl⟩
 ·rw[List.getElem?_set_ne (Ne.symm hx)] at h
  by_cases hy:x=t
  ·subst hy
   rw[List.getElem?_set_self (by have:=(List.getElem?_eq_some_iff.1 h).1; simpa using this)] at h
   cases h; exact .inr (.inl ⟨hx,rfl,rfl⟩)
  ·rw[List.getElem?_set_ne (Ne.symm hy)] at h
   exact .inr (.inr ⟨hx,hy,h⟩)
theorem Le.into {B:Nat×Nat} {N:Nat} {env:Env} {s:S} (q q2 t m v n:Nat) {e size e2 size2:Nat} {es es2:List (List V)} (hg:env.lookup q=some (.own m e size es)) (hw:env.lookup q2=some (.own t e2 size2 es2)) (hl:s.live[t]? = some v) (hm:s.live[m]? = some n)
  (hn:es.length=n) (hv:v<n) (htm:t≠m):Le B N ⟨env,s⟩ ((Home.s q).set (.own t e size es) ⟨env,⟨s.heap,(s.live.set t n).set m (n+1)⟩⟩):=⟨fun G a w hR=>by
 have hI:=hR.inv
 obtain⟨Tt,ht,hpt,hlt⟩:∃ Tt,G.tok[t]? = some Tt∧Tt.pro=none∧Tt.len=v:=by
  obtain⟨T,h1,h2⟩:=Qyx hI hl
  have:=(hR.env q2 _ hw).2
  generalize a.tmps.getD q2 undef=u at this
  cases this with
  | own _ _ _ _ _ T2 _ _ h3 h0 _ _ =>
   rw[h1] at h3
   cases h3
   exact⟨T,h1,h0,h2⟩
 obtain⟨Tm,hTm,hpm,hlm⟩:∃ Tm,G.tok[m]? = some Tm∧Tm.pro=none∧Tm.len=n:=by
  obtain⟨T,h1,h2⟩:=Qyx hI hm
  have:=(hR.env q _ hg).2
  generalize a.tmps.getD q undef=u at this
  cases this with
  | own _ _ _ _ _ T2 _ _ h3 h0 _ _ =>
   rw[h1] at h3
   cases h3
   exact⟨T,h1,h0,h2⟩
 have dead:∀ b,¬ (Tok.mk (n+1) none 0 none).has b:=fun b h=>by have:=Tok.has_row.1 h; cases this
 have mem:∀ T ∈ (G.into t m n Tm).tok,T=⟨n+1,none,0,none⟩∨T ∈ G.tok:=fun T hT=>by
  obtain⟨x,hx⟩:=List.getElem?_of_mem hT
  rcases Q5d hTm hx with ⟨-,h⟩ | ⟨-,-,h⟩ | ⟨-,-,h⟩
  ·exact .inl h
  ·exact .inr (h ▸ List.mem_of_getElem? hTm)
  ·exact .inr (List.mem_of_getElem? h)
 have hml:=(List.getElem?_eq_some_iff.1 hTm).1
 have htl:=(List.getElem?_eq_some_iff.1 ht).1
 have gm:(G.into t m n Tm).tok[m]? = some ⟨n+1,none,0,none⟩:=by
  show((G.tok.set t Tm).set m _)[m]? = _
  rw[List.getElem?_set_self (by simpa using hml)]
 have gt:(G.into t m n Tm).tok[t]? = some Tm:=by
  show((G.tok.set t Tm).set m _)[t]? = _
  rw[List.getElem?_set_ne (Ne.symm htm),List.getElem?_set_self htl]
 have go:∀ x,x≠t→x≠m→(G.into t m n Tm).tok[x]? = G.tok[x]? := fun x h1 h2=>by
  show((G.tok.set t Tm).set m _)[x]? = _
  rw[List.getElem?_set_ne (Ne.symm h2),List.getElem?_set_ne (Ne.symm h1)]
 have stp:Stp G w (G.into t m n Tm) w:=by
  refine⟨⟨rfl,rfl,rfl,Nat.le_refl _,fun b o u h k=>⟨h,k⟩,fun _ _ _ _=>rfl,fun b o h =>.inl h,fun b hb=>?_,fun b o h=>h,.refl w⟩,fun nm b h=>h,fun x T hx=>?_⟩
  ·rcases hb with hb | ⟨T,hT,hb⟩
   ·exact .inr (.inl hb)
   ·rcases mem T hT with rfl | h
    ·exact absurd hb (dead b)
    ·exact .inr (.inr ⟨T,h,hb⟩)
  ·by_cases h1:x=t
   ·subst h1
    rw[ht] at hx
    cases hx
    exact⟨Tm,gt,⟨by omega,by rw[hpm,hpt]⟩,fun h=>by omega⟩
   ·by_cases h2:x=m
    ·subst h2
     rw[hTm] at hx
     cases hx
     exact⟨_,gm,⟨by show Tm.len≤n+1; omega,by rw[hpm]⟩,fun h=>by have h:Tm.len=n+1:=h; omega⟩
    ·exact⟨T,by rw[go x h1 h2]; exact hx,.refl T,fun _=>⟨rfl,fun _ _=>rfl⟩⟩
 have inv:Inv (G.into t m n Tm) ⟨s.heap,(s.live.set t n).set m (n+1)⟩ w:=by
  refine⟨fun b o hc=>?_,hI.names,hI.nodup,fun i b cs hb hcs=>(hI.var i b cs hb hcs).mono stp rfl,?_,fun x T b hx hb=>?_,fun T hT=>?_,hI.glob⟩
  ·obtain⟨h1,h2,h3⟩:=hI.com b o hc
   refine⟨h1,h2,fun T hT=>?_⟩
   rcases mem T hT with rfl | h
   ·exact Tok.may_row.2 fun h=>(nomatch h)
   ·exact h3 T h
  ·show((G.tok.set t Tm).set m _).map (·.len)=_
   rw[List.map_set,List.map_set,hI.live,hlm]
  ·have orig:∀ (y:Nat) T', (G.into t m n Tm).tok[y]? = some T' → T'.has b→y≠m∧G.tok[if y=t then m else y]? = some T' := fun y T' hy hb' => by
    rcases Q5d hTm hy with ⟨-,h⟩ | ⟨h0,rfl,h⟩ | ⟨h0,h1,h⟩
    ·subst h; exact absurd hb' (dead b)
    ·subst h; exact⟨h0,by rw[if_pos rfl]; exact hTm⟩
    ·exact⟨h0,by rw[if_neg h1]; exact h⟩
   obtain⟨k1,k2⟩:=orig x T hx hb
   obtain⟨g1,g2,g3⟩:=hI.tok _ T b k2 hb
   refine⟨g1,g2,fun y T' hy hb' => ?_⟩
   obtain⟨j1,j2⟩:=orig y T' hy hb'
   have:=g3 _ T' j2 hb'
   split at this<;>split at this<;>omega
  ·rcases mem T hT with rfl | h
   ·exact⟨fun q hq=>(nomatch hq),fun b o ⟨q,hq,_⟩=>(nomatch hq)⟩
   ·exact hI.pro T h
 refine⟨G.into t m n Tm,stp.ex B,Qo4 (hm :=.s q) hR stp inv rfl (fun _ _=>rfl) hg fun u hu=>?_⟩
 cases hu with
 | own _ _ _ _ _ T2 h1 h2 h3 h0 h4 h5 =>
  rw[hTm] at h3
  cases h3
  obtain⟨a2,cap,rfl,h6⟩:=h5 (by omega)
  refine⟨.own t e size es _ Tm h1 h2 gt h0 h4 fun he=>⟨a2,cap,rfl,h6.imp id (Or.imp_left ?_)⟩,rfl⟩
  rintro ⟨b,us,T3,ha,g1,g⟩
  rw[hTm] at g1
  cases g1
  exact⟨b,us,Tm,ha,gt,g⟩⟩
end Go.Proofs.YtfgegilhjlnohaaGreat
end

section
namespace Go.Proofs.YtfgegilhjlnohaaGreat
open Go.RowKit
set_option linter.unusedVariables false
def mget {κ α : Type} (eqb : κ → κ → Bool) (k : κ):List (κ × α)→Option α
 | []=>none
 | p::r=>if eqb k p.1 then some p.2 else mget eqb k r
def mset {κ α : Type} (eqb : κ → κ → Bool) (k : κ) (x : α):List (κ × α)→List (κ × α)
 | []=>[(k,x)]
 | p::r=>if eqb k p.1 then(k,x)::r else p::mset eqb k x r
abbrev mpR {κ α : Type} (ck : κ → V) (ca : α → V) (l:List (κ × α)):List (List V):=l.map fun p=>[ck p.1,ca p.2]
abbrev mpD {κ α : Type} (ck : κ → V) (ca : α → V) (l:List (κ × α)):D :=.tup [.p (.sl false (mpR ck ca l))]
theorem Q1x {κ α : Type} {eq:V→V→Option Bool} {eqb : κ → κ → Bool} {ck : κ → V} {ca : α → V} (heq:∀ a b,eq (ck a) (ck b)=some (eqb a b)) (k : κ):∀ l:List (κ × α),mFind eq (ck k) (mpR ck ca l)=some ((mget eqb k l).map ca)
 | []=>rfl
 | p::r=>by
  have ih:=Q1x (ca:=ca) heq k r
  show mFind eq (ck k) ([ck p.1,ca p.2]::mpR ck ca r)=_
  rw[mFind,heq,mget]
  cases eqb k p.1 with
  | true=>rfl
  | false=>exact ih
theorem Q5e {κ α : Type} {eq:V→V→Option Bool} {eqb : κ → κ → Bool} {ck : κ → V} {ca : α → V} (heq:∀ a b,eq (ck a) (ck b)=some (eqb a b)) (k : κ) (x : α):∀ l:List (κ × α),mSet eq (ck k) (ca x) (mpR ck ca l)=some (mpR ck ca (mset eqb k x l))
 | []=>rfl
 | p::r=>by
  have ih:=Q5e (ca:=ca) heq k x r
  show mSet eq (ck k) (ca x) ([ck p.1,ca p.2]::mpR ck ca r)=_
  rw[mSet,heq,mset]
  cases eqb k p.1 with
  | true=>rfl
  | false =>
   show(mSet eq (ck k) (ca x) (mpR ck ca r)).map ([ck p.1,ca p.2] :: ·)=_
   rw[ih]; rfl
theorem Qp4 {κ α : Type} {l:List (κ × α)} {k : κ} (eqb : κ → κ → Bool) {ck : κ → V} {ca : α → V} {z0 : α} {zv:Value} {z kx:V} {hp:Option (List D)} {eq:V→V→Option Bool} {ko:Bool} {K:V→Bool→Prop}
  (hko:ko=true) (hh:hp=some [mpD ck ca l]) (hkx:kx=ck k) (heq:∀ a b,eq (ck a) (ck b)=some (eqb a b)) (hz:absV zv=some z) (hle:LeV z (ca z0)) (h:K (ca ((mget eqb k l).getD z0)) (mget eqb k l).isSome) :
  ko=true∧∃ fl ms r z v b,hp=some [.tup [.p (.sl fl ms)]]∧mFind eq kx ms=some r∧absV zv=some z∧LeV (r.getD z) v∧b=r.isSome∧K v b:=by
 subst hkx
 refine⟨hko,false,_,_,z,ca ((mget eqb k l).getD z0),(mget eqb k l).isSome,hh,Q1x heq k l,hz,?_,?_,h⟩
 ·cases mget eqb k l with
  | none=>exact hle
  | some x=>exact .refl _
 ·cases mget eqb k l<;>rfl
theorem Q7m {κ α : Type} {l:List (κ × α)} {k : κ} {x : α} (eqb : κ → κ → Bool) {ck : κ → V} {ca : α → V} {kx vx:V} {hp:Option (List D)} {eq:V→V→Option Bool} {ko:Bool} {K:Bool→List (List V)→Prop}
  (hko:ko=true) (hh:hp=some [mpD ck ca l]) (hkx:kx=ck k) (hvx:LeV vx (ca x)) (heq:∀ a b,eq (ck a) (ck b)=some (eqb a b)) (h:K false (mpR ck ca (mset eqb k x l))) :
  ko=true∧∃ fl ms ms' v,hp=some [.tup [.p (.sl fl ms)]]∧LeV vx v∧mSet eq kx v ms=some ms' ∧ K fl ms' := by
 subst hkx
 exact⟨hko,false,_,_,ca x,hh,hvx,Q5e heq k x l,h⟩
end Go.Proofs.YtfgegilhjlnohaaGreat
end

section
namespace Go.Proofs.YtfgegilhjlnohaaGreat
open Go.RowKit Go.Sort Go.Shelf
theorem deleteFnT {P:Program} {ρ : Ren} (L:Lays2.n24 P ρ) (hfn:isFn P (ρ.f 24)=true) (ss:List (List UInt8)) (i j:Nat) (hij:i<j) (hj:j≤ss.length):FnT P (ρ.f 24) #[.int .i64 i,.int .i64 j] true ss (ss.take i++ss.drop j):=by
 have hl:(ss.take i++ss.drop j).length=ss.length-(j-i):=by simp; omega
 refine⟨hfn,by omega,fun h=>(nomatch h),fun w a cap h1 h2=>⟨fun h0=>by omega,fun b us e ha hus hc hS=>?_⟩⟩
 subst ha
 refine(Any.slices_Delete_string L b 0 cap i j ss w hS.holds h1 h2 (by omega) hj).mono fun en w' ⟨he,q,hw⟩=>⟨by rw[he,hl]; rfl,?_⟩
 have:=Qn1 hS hus q (ss.take i++ss.drop j++List.replicate (j-i) []).toArray (by simp; have:=hS.len; omega) (ss.take i++ss.drop j) (fun k s hk=>by
  have hlt:=(List.getElem?_eq_some_iff.1 hk).1
  rw[List.getElem?_toArray,List.getElem?_append_left hlt]; exact hk) #[]
 rw[hw]
 simpa using this
noncomputable def srtL (ss:List (List UInt8)):List (List UInt8):=ss.mergeSort fun x y=>decide (x≤y)
noncomputable def delL (ss:List (List UInt8)) (i j:Int):List (List UInt8):=ss.take i.toNat++ss.drop j.toNat
theorem sortFn {ss:List (List UInt8)} (h:ss.length<4611686018427387904):FnT Tryz.prog 48 #[] false ss (srtL ss):=sortFnT Tryz.lays190 (by kernel_rfl) ss h
theorem compactFn {ss:List (List UInt8)} (h:ss.length<4611686018427387904):FnT Tryz.prog 100 #[] true ss (Lib.compact ss):=compactFnT Tryz.lays194 (by kernel_rfl) ss h
theorem deleteFn (i j:Int) {ss:List (List UInt8)} (_:ss.length<4611686018427387904) (h1:0≤i) (h2:i<j) (h3:j≤(ss.length:Int)):FnT Tryz.prog 53 #[.int .i64 i,.int .i64 j] true ss (delL ss i j):=by
 have:=deleteFnT Tryz.laysNm224 (by kernel_rfl) ss i.toNat j.toNat (by omega) (by omega)
 rw[Int.toNat_of_nonneg h1,Int.toNat_of_nonneg (by omega)] at this
 exact this
end Go.Proofs.YtfgegilhjlnohaaGreat
end

section
namespace Go.Proofs.YtfgegilhjlnohaaGreat
open Go.RowKit
def dv (c:UInt8):Nat:=c.toNat-48
def val (l:List UInt8):Nat:=l.foldl (fun u c=>u*10+dv c) 0
end Go.Proofs.YtfgegilhjlnohaaGreat
end
