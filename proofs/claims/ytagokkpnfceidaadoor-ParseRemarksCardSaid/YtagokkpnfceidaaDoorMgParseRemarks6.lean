/- The proof's texts, part 6 of 11: the walks by a logic in which data are by value, the plain laws, and at the end the law, for every input. -/
import Derived.Test.YtagokkpnfceidaaDoorMgParseRemarks5
import Derived.Shelf.RegionOpenPlain
import Derived.Lib.Strings
import Derived.Lib.Walk
import Derived.Lib.Builder
import Derived.Lib.UnsafeStr
import Derived.Laws.Externs
import Derived.Shelf.Strings.Builder1
import Derived.Shelf.Strings.Builder2
import Derived.Shelf.Strings.Trim
import Derived.Shelf.Small.Utf8
import Derived.Shelf.Small.Strs
import Derived.Shelf.Small.Wraps
import Derived.Shelf.Strings.BuilderF
import Derived.Shelf.Strings.BuilderK
import Derived.Shelf.Utf8.RuneCount
import Derived.Shelf.Strings.Builder2Cap
import Derived.Shelf.Strings.Search1
import Derived.Shelf.Strings.Search2
import Derived.Shelf.Strings.Search3
import Derived.Shelf.Strings.Cut
import Derived.Shelf.Strings.Count
import Derived.Shelf.LaysM
import Derived.Shelf.Strings.Shaped
import Derived.Shelf.Strings.Prefix
import Derived.Shelf.Strings.Split
import Derived.Shelf.Strings.Replace
import Derived.Shelf.Strings.SplitShaped
import Derived.Shelf.Unicode.Decode
import Derived.Shelf.Strings.Runes
import Derived.Shelf.Strings.RuneCount
import Derived.Shelf.Strings.AsciiSet
import Derived.Shelf.Unicode.DecodeSlow
import Derived.Shelf.Unicode.DecodeAny
import Derived.Shelf.Strings.BuilderCap
import Derived.Test.YtagokkpnfceidaaDoorProg
import Derived.Shelf.Strings.SlTrimAscii
import Derived.Below
import Derived.Laws.Bits
import Derived.Deep.DeepCutAuto
import Derived.Deep.CutRange

section
namespace Go.Proofs.YtagokkpnfceidaaDoor
open Go.RowKit
def csize:Code→Nat
 | .seq a b=>csize a+csize b+1
 | .cond _ a b=>csize a+csize b+1
 | .block _ b=>csize b+1
 | .loop b=>csize b+1
 | .rangeFunc _ _ a b=>csize a+csize b+1
 | _=>1
def skey:Code→Nat
 | .region id _ _=>3000000+id
 | x=>2000000+1000*firstReg x+csize x
def loopsOf:Code→List Code
 | .seq a b=>loopsOf a++loopsOf b
 | .cond _ a b=>loopsOf a++loopsOf b
 | .block _ b=>loopsOf b
 | .loop b=>b::loopsOf b
 | .rangeFunc g ps a b =>.rangeFunc g ps a b::(loopsOf a++loopsOf b)
 | .scope b=>loopsOf b
 | _=>[]
def scopesOf:Code→List Code
 | .seq a b=>scopesOf a++scopesOf b
 | .cond _ a b=>scopesOf a++scopesOf b
 | .block _ b=>scopesOf b
 | .loop b=>scopesOf b
 | .rangeFunc _ _ a b=>scopesOf a++scopesOf b
 | .scope b=>b::scopesOf b
 | _=>[]
section
variable {P:Program} {tb:Tbl}
def baseOf (o:Option (List Nat)) (n:Nat):Nat:=match o with
 | some [b]=>if b≤n then b else n
 | _=>n
theorem Qs6 (o:Option (List Nat)) (n:Nat):baseOf o n≤n:=by
 unfold baseOf
 split
 ·split
  ·assumption
  ·exact Nat.le_refl _
 ·exact Nat.le_refl _
def rwp (P : Program) (tb : Tbl) (N : Nat) (lv : List (Nat × List Nat)) (id : Nat) (ops : Array Oper) (dr : Bool) (Q : St → Prop) (σ : St) : Prop := force σ fun σ => match dr with
    | false => match lv.lookup (9000000 + id) with
      | none => bOps true P tb N ops.toList (List.range ops.toList.length) σ fun σ' => Q (keep (lv.lookup id) σ')
      | some mk => xOps mk P tb N ops.toList (List.range ops.toList.length) σ fun σ' => Q (keep (lv.lookup id) σ')
    | true => match lv.lookup (9400000 + id) with
     | some _ => ∃ (t : PT) (τ : St), ptAll ops true t (Array.replicate ops.size false) ops.size = true ∧ allT P tb N ops.toList (fun σ' => keep (lv.lookup id) σ' = τ) true t σ ∧ Q τ
     | none => match lv.lookup (9800000 + id) with
     | some [j] => tailSeq ops.toList j = true ∧ lexOkP ((lv.lookup (5000000 + id)).getD []) ops.toList j = true ∧ (lv.lookup (7000000 + id)).isSome = true ∧ dOps (baseOf (lv.lookup (8000000 + id)) σ.s.heap.length) ((lv.lookup (5000000 + id)).getD []) P tb N ops.toList (List.range j) σ fun σ' =>
        xOps ((lv.lookup (9000000 + id)).getD []) P tb N ops.toList (List.range' j (ops.toList.length - j)) (keep (lv.lookup (7000000 + id)) σ') fun σ2 => Q (keep (lv.lookup id) σ2)
     | _ => match lv.lookup (6000000 + id) with
      | some [j] => tailOk ops.toList j = true ∧ lexOkP ((lv.lookup (5000000 + id)).getD []) ops.toList j = true ∧ (lv.lookup (7000000 + id)).isSome = true ∧ dOps σ.s.heap.length ((lv.lookup (5000000 + id)).getD []) P tb N ops.toList (List.range j) σ fun σ' =>
        ∃ σ2, Apv tb ops.toList j N (keep (lv.lookup (7000000 + id)) σ') σ2 ∧ Q (keep (lv.lookup id) σ2)
      | some [p, _] => lexOkX p (p + 1) ((lv.lookup (5000000 + id)).getD []) ops.toList = true ∧ reachB p ops.toList = true ∧ p + 1 < ops.toList.length ∧ (lv.lookup id).isSome = true ∧
        dOps σ.s.heap.length ((lv.lookup (5000000 + id)).getD []) P tb N ops.toList (List.range p) σ (both σ.s.heap.length ((lv.lookup (5000000 + id)).getD []) P tb N ops.toList p fun σ' => Q (keep (lv.lookup id) σ'))
      | _ => lexOk2 ((lv.lookup (5000000 + id)).getD []) ops.toList = true ∧ (lv.lookup id).isSome = true ∧ dOps (baseOf (lv.lookup (8000000 + id)) σ.s.heap.length) ((lv.lookup (5000000 + id)).getD []) P tb N ops.toList (List.range ops.toList.length) σ fun σ' => Q (keep (lv.lookup id) σ')
def panE (o:Option (List Nat)) (σ : St):St:=match o with
 | none=>⟨[],σ.s⟩
 | some l=>keep (some l) σ
theorem Qvw {N:Nat} {G:Gh} {σ : St} {a:Act} {w:World} (h:Rel N G σ a w) (o:Option (List Nat)):Rel N G (panE o σ) a w:=by
 unfold panE
 split
 ·exact⟨h.inv,fun t d hd=>by simp at hd,h.size⟩
 ·exact Qee h _
def rwpP (P:Program) (tb:Tbl) (N:Nat) (lv:List (Nat×List Nat)) (pk:List Nat) (id:Nat) (ops:Array Oper) (dr:Bool) (Q:Exit→St→Prop) (σ : St):Prop:=force σ fun σ => match dr with
 | false=>pOps pk ((lv.lookup (9000000+id)).getD []) P tb N ops.toList (fun τ => Q (.panic panCH) (panE (lv.lookup (9700000+id)) τ)) (List.range ops.toList.length) σ fun σ' => Q .normal (keep (lv.lookup id) σ')
 | true=>rwp P tb N lv id ops true (Q .normal) σ ∨ ∃ t:PT,ptTop ops t=true∧panT P tb N ops.toList (fun τ => Q (.panic panCH) (panE (lv.lookup (9700000+id)) τ)) t σ
def bwp (B:Nat×Nat) (P:Program) (tb:Tbl) (N:Nat) (lv:List (Nat×List Nat)):Code→(Exit→St→Prop)→St→Prop
 | .skip,Q,σ => Q .normal σ
 | .label _,Q,σ => Q .normal σ
 | .region id ops dr,Q,σ => match lv.lookup (9600000+id) with
  | none=>match lv.lookup (9500000+id) with
   | none=>rwp P tb N lv id ops dr (Q .normal) σ
   | some _=>∃ τ,Le B N σ τ ∧ rwp P tb N lv id ops dr (Q .normal) τ
  | some pk=>∃ τ,Le B N σ τ ∧ rwpP P tb N lv pk id ops dr Q τ
 | .seq x y,Q,σ => match lv.lookup (skey x) with
  | none=>bwp B P tb N lv x (fun e σ' => match e with | .normal=>bwp B P tb N lv y Q σ' | e=>Q e σ') σ
  | some _=>∃ M:Exit→St→Prop,bwp B P tb N lv x M σ ∧ ∀ e σ', M e σ' → ∃ τ,Le B N σ' τ ∧ (match e with | .normal=>bwp B P tb N lv y Q τ | e=>Q e τ)
 | .cond c x y,Q,σ => match ev σ.env c with
  | some (.p (.v (.bool b)))=>(b=true→bwp B P tb N lv x Q σ)∧(b=false→bwp B P tb N lv y Q σ)
  | _=>False
 | .block id b,Q,σ => bwp B P tb N lv b (fun e σ' => match e with | .exit i=>if i=id then Q .normal σ' else Q (.exit i) σ' | e=>Q e σ') σ
 | .exit id,Q,σ => Q (.exit id) σ
 | .ret,Q,σ => Q .ret σ
 | .goto l,Q,σ => Q (.goto l) σ
 | .scope b,Q,σ => ∃ M:Exit→St→Prop,T B P N (.scope b) M σ ∧ ∀ e σ', M e σ' → ∃ τ,Le B N σ' τ ∧ Q e τ
 | .loop b,Q,σ => ∃ M:Exit→St→Prop,T B P N (.loop b) M (keep (lv.lookup (1000000+firstReg b)) σ)∧∀ e σ', M e σ' → ∃ τ,Le B N σ' τ ∧ Q e τ
 | .rangeFunc g ps x y,Q,σ => ∃ M:Exit→St→Prop,T B P N (.rangeFunc g ps x y) M (keep (lv.lookup (4000000+firstReg (.rangeFunc g ps x y))) σ)∧∀ e σ', M e σ' → ∃ τ,Le B N σ' τ ∧ Q e τ
 | _,_,_=>False
theorem T_up {B:Nat×Nat} {N:Nat} {c:Code} {M Q:Exit→St→Prop} {σ : St} (h:T B P N c M σ) (k:∀ e σ', M e σ' → ∃ τ,Le B N σ' τ ∧ Q e τ):T B P N c Q σ := ⟨fun rd lo G a w hR hF =>
 wpIn_mono (h.out rd lo G a w hR hF) fun e a' w' ⟨G', σ', hE,hR', hF', hq⟩=>by
  obtain⟨τ,hl,hq⟩:=k e σ' hq
  obtain⟨G2,e2,r2⟩:=hl.out G' a' w' hR'
  exact⟨G2,τ,hE.trans e2,r2,hF'.ext e2.ext rfl,hq⟩⟩
theorem T_seq {B:Nat×Nat} {N:Nat} {x y:Code} {M Q:Exit→St→Prop} {σ : St} (h:T B P N x M σ) (k:∀ e σ', M e σ' → match e with | .normal=>T B P N y Q σ' | e=>Q e σ'):T B P N (.seq x y) Q σ := ⟨fun rd lo G a w hR hF=>by
 refine wpIn_seq (wpIn_mono (h.out rd lo G a w hR hF) fun e a' w' ⟨G', σ', hE,hR', hF', hq⟩=>?_)
 have hq:=k e σ' hq
 cases e with
 | normal=>exact wpIn_mono (hq.out rd lo G' a' w' hR' hF') fun e a'' w'' ⟨G'', σ'', hE', hR'', hF'', hq'⟩=>⟨G'', σ'', hE.trans hE', hR'', hF'', hq'⟩
 | exit id=>exact⟨G', σ', hE,hR', hF', hq⟩
 | goto l=>exact⟨G', σ', hE,hR', hF', hq⟩
 | ret=>exact⟨G', σ', hE,hR', hF', hq⟩
 | panic ch=>exact⟨G', σ', hE,hR', hF', hq⟩
 | outgrown=>exact⟨G', σ', hE,hR', hF', hq⟩⟩
theorem Qoi (hm:P.follows .mixedOrders=true) (hT:TblOk P tb) {B:Nat×Nat} {N:Nat} {lv:List (Nat×List Nat)} {id:Nat} {ops:Array Oper} {dr:Bool} {Q:Exit→St→Prop} {σ : St} (h:rwp P tb N lv id ops dr (Q .normal) σ):T B P N (.region id ops dr) Q σ :=.mk fun rd lo G a w hR hF=>by
 unfold rwp at h
 rw[Qq2] at h
 have hops:ops.toList.toArray=ops:=by simp
 cases dr with
 | false =>
  refine wpIn_region ?_
  simp only at h
  split at h
  ·have:=Qmr hT (rd:=rd) (ops:=ops.toList) (Q:=fun e a' w' => ∃ G' σ', Ex B G w G' w' ∧ Rel N G' σ' a' w' ∧ Fr rd lo G' a' w' ∧ Q e σ') (G0:=G) (w0:=w) (ds:=a.defers) (fun a' w' G' σ' hE hR' hd hK=>⟨G', _,hE,Qee hR' _,hF.ext hE.ext hd,hK⟩) _ σ a w G (.refl B G w) hR rfl h
   rw[hops] at this
   simpa using this
  ·have:=Qmt hT (rd:=rd) (ops:=ops.toList) (Q:=fun e a' w' => ∃ G' σ', Ex B G w G' w' ∧ Rel N G' σ' a' w' ∧ Fr rd lo G' a' w' ∧ Q e σ') (G0:=G) (w0:=w) (ds:=a.defers) (fun a' w' G' σ' hE hR' hd hK=>⟨G', _,hE,Qee hR' _,hF.ext hE.ext hd,hK⟩) _ σ a w G (.refl B G w) hR rfl h
   rw[hops] at this
   simpa using this
 | true =>
  simp only at h
  split at h
  ·obtain⟨t,τ,h1,h2,h3⟩:=h
   refine wpIn_region_any hm ?_
   have hd:Stp G w G { w with drawn:=w.drawn+1 }:=Stp.drewN G w _
   have:=(Qxa hT (rd:=rd) (N:=N) (ops:=ops.toList) (Q:=fun e a' w' => ∃ G' σ', Ex B G w G' w' ∧ Rel N G' σ' a' w' ∧ Fr rd lo G' a' w' ∧ Q e σ') (leaf:=fun σ' => keep (lv.lookup id) σ' = τ) (B:=B) (G0:=G) (w0:=w) (ds:=a.defers)
    (fun a' w' G' σ' hE hR' hd hK=>⟨G', _,hE,Qee hR' (lv.lookup id),hF.ext hE.ext hd,by rw[hK]; exact h3⟩) t true ops.size (Array.replicate ops.size false) σ a { w with drawn:=w.drawn+1 } G (by rw[hops]; exact h1) (hd.ex B) ⟨hR.inv.drewN _,hR.env.mono hd,hR.size⟩ rfl h2).1 rfl
   rw[hops] at this
   exact this
  split at h
  ·rename_i j hj
   obtain⟨h1,h2,h3,h4⟩:=h
   obtain⟨hjl,hsp⟩:=Qm8 h1
   obtain⟨l,hl⟩:=Option.isSome_iff_exists.1 h3
   refine wpIn_region_any hm ?_
   have hsz:ops.size=ops.toList.length:=by simp
   have hall:((List.range j).filter fun i => !(Array.replicate ops.size false).getD i true)=List.range j:=by
    rw[List.filter_eq_self]
    intro i hi
    have:i<ops.size:=by have:=List.mem_range.1 hi; omega
    simp[Array.getD_eq_getD_getElem?,this]
   have hd:Stp G w G { w with drawn:=w.drawn+1 }:=Stp.drewN G w _
   have:=Qmv hT (rd:=rd) (ops:=ops.toList) (j:=j) (k:=ops.toList.length-j) hjl h2 (fun i o hi ho x hx=>(hsp i o hi ho).2.1 x hx) (ds:=a.defers) (Q:=fun e a' w' => ∃ G' σ', Ex B G w G' w' ∧ Rel N G' σ' a' w' ∧ Fr rd lo G' a' w' ∧ Q e σ')
    (K:=fun σ' => xOps ((lv.lookup (9000000+id)).getD []) P tb N ops.toList (List.range' j (ops.toList.length-j)) (keep (lv.lookup (7000000+id)) σ') fun σ2=>Q .normal (keep (lv.lookup id) σ2)) (fun σ τ he hq=>by
     have e:keep (lv.lookup (7000000+id)) σ = keep (lv.lookup (7000000+id)) τ := by
      rw[hl]
      simp only[keep,he.2,Qhl l he.1]
     show xOps _ P tb N ops.toList _ (keep (lv.lookup (7000000+id)) τ) _
     rw[← e]; exact hq) (G0:=G) (w0:=w) (fun a' w' G' σ' L l1 l2 l3 hE hR' hd hK=>Qxb hT h1 (Q:=fun e a' w' => ∃ G' σ', Ex B G w G' w' ∧ Rel N G' σ' a' w' ∧ Fr rd lo G' a' w' ∧ Q e σ') (fun a2 w2 G2 σ2 e2 r2 d2 k2=>⟨G2,_,e2,Qee r2 _,hF.ext e2.ext d2,k2⟩)
     (ops.toList.length-j) j (Nat.le_refl _) (by omega) L _ a' w' G' l1 l2 l3 hE (Qee hR' _) hd hK)
    j (Array.replicate ops.size false) σ a { w with drawn:=w.drawn+1 } G (by simp) (fun i o ho hi=>by
     have hlt:i<ops.size:=by rw[hsz]; exact(List.getElem?_eq_some_iff.1 ho).1
     simp[Array.getD_eq_getD_getElem?,hlt] at hi) (fun i _ hi=>by
     have hlt:i<ops.size:=by simpa using hi
     simp[Array.getD_eq_getD_getElem?,hlt]) (by rw[hall]; simp) (hd.ex B) ⟨hR.inv.drewN _,hR.env.mono hd,hR.size⟩ rfl (Qs6 _ _) (by rw[hall]; exact h4)
   rw[hops] at this
   have hjz:j+(ops.toList.length-j)=ops.size:=by omega
   rw[hjz] at this
   exact this
  split at h
  ·rename_i j hj
   obtain⟨h1,h2,h3,h4⟩:=h
   have ht:=Quc h1
   obtain⟨l,hl⟩:=Option.isSome_iff_exists.1 h3
   refine wpIn_region_any hm ?_
   have hsz:ops.size=j+6:=by have:=ht.len; simpa using this
   have hall:((List.range j).filter fun i => !(Array.replicate ops.size false).getD i true)=List.range j:=by
    rw[List.filter_eq_self]
    intro i hi
    have:i<ops.size:=by have:=List.mem_range.1 hi; omega
    simp[Array.getD_eq_getD_getElem?,this]
   have hd:Stp G w G { w with drawn:=w.drawn+1 }:=Stp.drewN G w _
   have:=Qmv hT (rd:=rd) (ops:=ops.toList) (j:=j) (k:=6) (by rw[ht.len]; omega) h2 (fun i o hi ho x hx=>by
     have hi6:i<j+6:=by have:=(List.getElem?_eq_some_iff.1 ho).1; rw[ht.len] at this; exact this
     have:=ht.pre (i-j) (by omega) x hx
     rw[show j+(i-j)=i by omega] at this
     exact(Qlx ho).1 this) (ds:=a.defers) (Q:=fun e a' w' => ∃ G' σ', Ex B G w G' w' ∧ Rel N G' σ' a' w' ∧ Fr rd lo G' a' w' ∧ Q e σ') (K:=fun σ' => ∃ σ2,Apv tb ops.toList j N (keep (lv.lookup (7000000+id)) σ') σ2∧Q .normal (keep (lv.lookup id) σ2)) (fun σ τ he hq=>by
     have e:keep (lv.lookup (7000000+id)) σ = keep (lv.lookup (7000000+id)) τ := by
      rw[hl]
      simp only[keep,he.2,Qhl l he.1]
     show ∃ σ2,Apv tb ops.toList j N (keep (lv.lookup (7000000+id)) τ) σ2∧Q .normal (keep (lv.lookup id) σ2)
     rw[← e]; exact hq) (G0:=G) (w0:=w) (fun a' w' G' σ' L l1 l2 l3 hE hR' hd ⟨σ2,hA,hK⟩=>Qye hT ht hA (Qee hR' _) (fun a2 w2 G2 e2 r2 d2=>⟨G2,_,hE.trans (e2.ex B),Qee r2 _,hF.ext (hE.trans (e2.ex B)).ext (d2.trans hd),hK⟩) L l1 l2 l3)
    j (Array.replicate ops.size false) σ a { w with drawn:=w.drawn+1 } G (by simp) (fun i o ho hi=>by
     have hlt:i<ops.size:=by have:=(List.getElem?_eq_some_iff.1 ho).1; simpa using this
     simp[Array.getD_eq_getD_getElem?,hlt] at hi) (fun i _ hi=>by
     have hlt:i<ops.size:=by simpa using hi
     simp[Array.getD_eq_getD_getElem?,hlt]) (by rw[hall]; simp) (hd.ex B) ⟨hR.inv.drewN _,hR.env.mono hd,hR.size⟩ rfl (Nat.le_refl _) (by rw[hall]; exact h4)
   rw[hops,← hsz] at this
   exact this
  ·rename_i p _ hj
   obtain⟨h1,h2,h3,h4,h5⟩:=h
   obtain⟨l,hl⟩:=Option.isSome_iff_exists.1 h4
   refine wpIn_region_any hm ?_
   have hsz:ops.size=ops.toList.length:=by simp
   have hall:((List.range p).filter fun i => !(Array.replicate ops.size false).getD i true)=List.range p:=by
    rw[List.filter_eq_self]
    intro i hi
    have:i<ops.size:=by have:=List.mem_range.1 hi; omega
    simp[Array.getD_eq_getD_getElem?,this]
   have hd:Stp G w G { w with drawn:=w.drawn+1 }:=Stp.drewN G w _
   have:=Qqb hT (rd:=rd) (ops:=ops.toList) h1 h3 (Que h2) (ds:=a.defers) (Q:=fun e a' w' => ∃ G' σ', Ex B G w G' w' ∧ Rel N G' σ' a' w' ∧ Fr rd lo G' a' w' ∧ Q e σ') (K:=fun σ' => Q .normal (keep (lv.lookup id) σ')) (fun σ τ he hq=>by
     have e:keep (lv.lookup id) σ = keep (lv.lookup id) τ := by
      rw[hl]
      simp only[keep,he.2,Qhl l he.1]
     show Q .normal (keep (lv.lookup id) τ)
     rw[← e]; exact hq) (G0:=G) (w0:=w) (fun a' w' G' σ' hE hR' hd hK=>⟨G', _,hE,Qee hR' _,hF.ext hE.ext hd,hK⟩)
    ops.size (Array.replicate ops.size false) σ a { w with drawn:=w.drawn+1 } G (by simp) (fun i o ho hi=>by
     have hlt:i<ops.size:=by rw[hsz]; exact(List.getElem?_eq_some_iff.1 ho).1
     simp[Array.getD_eq_getD_getElem?,hlt] at hi) (fun i _ hi=>by
     have hlt:i<ops.size:=by simpa using hi
     simp[Array.getD_eq_getD_getElem?,hlt]) (by rw[hall]; simp at h3 ⊢; omega) (hd.ex B) ⟨hR.inv.drewN _,hR.env.mono hd,hR.size⟩ rfl (Nat.le_refl _) (by rw[hall]; exact h5)
   rw[hops] at this
   exact this
  ·obtain⟨h1,h2,h3⟩:=h
   obtain⟨l,hl⟩:=Option.isSome_iff_exists.1 h2
   refine wpIn_region_any hm ?_
   have hsz:ops.size=ops.toList.length:=by simp
   have hall:((List.range ops.toList.length).filter fun i => !(Array.replicate ops.size false).getD i true)=List.range ops.toList.length:=by
    rw[List.filter_eq_self]
    intro i hi
    have:i<ops.size:=by simpa using hi
    simp[Array.getD_eq_getD_getElem?,this]
   have hd:Stp G w G { w with drawn:=w.drawn+1 }:=Stp.drewN G w _
   have:=Qs2 hT (rd:=rd) (ops:=ops.toList) h1 (ds:=a.defers) (Q:=fun e a' w' => ∃ G' σ', Ex B G w G' w' ∧ Rel N G' σ' a' w' ∧ Fr rd lo G' a' w' ∧ Q e σ') (K:=fun σ' => Q .normal (keep (lv.lookup id) σ')) (fun σ τ he hq=>by
     have e:keep (lv.lookup id) σ = keep (lv.lookup id) τ := by
      rw[hl]
      simp only[keep,he.2,Qhl l he.1]
     show Q .normal (keep (lv.lookup id) τ)
     rw[← e]; exact hq) (G0:=G) (w0:=w) (fun a' w' G' σ' hE hR' hd hK=>⟨G', _,hE,Qee hR' _,hF.ext hE.ext hd,hK⟩)
    ops.size (Array.replicate ops.size false) σ a { w with drawn:=w.drawn+1 } G (by simp) (fun i o ho hi=>by
     have hlt:i<ops.size:=by rw[hsz]; exact(List.getElem?_eq_some_iff.1 ho).1
     simp[Array.getD_eq_getD_getElem?,hlt] at hi) (by rw[hall]; simp) (hd.ex B) ⟨hR.inv.drewN _,hR.env.mono hd,hR.size⟩ rfl (Qs6 _ _) (by rw[hall]; exact h3)
   rw[hops] at this
   exact this
theorem Qxc (hm:P.follows .mixedOrders=true) (hT:TblOk P tb) {B:Nat×Nat} {N:Nat} {lv:List (Nat×List Nat)} {pk:List Nat} {id:Nat} {ops:Array Oper} {dr:Bool} {Q:Exit→St→Prop} {σ : St} (h:rwpP P tb N lv pk id ops dr Q σ):T B P N (.region id ops dr) Q σ :=.mk fun rd lo G a w hR hF=>by
 unfold rwpP at h
 rw[Qq2] at h
 have hops:ops.toList.toArray=ops:=by simp
 cases dr with
 | true =>
  rcases h with h | ⟨t,h1,h2⟩
  ·exact(Qoi (Q:=Q) hm hT h).out rd lo G a w hR hF
  ·refine wpIn_region_any hm ?_
   have hd:Stp G w G { w with drawn:=w.drawn+1 }:=Stp.drewN G w _
   unfold ptTop at h1
   split at h1
   ·cases h1
   ·rename_i k hk
    rw[Bool.and_eq_true] at h1
    rw[hk] at h1 ⊢
    refine Qq9 h1.1 ?_
    have:=Qw9 hT (rd:=rd) (N:=N) (ops:=ops.toList) (Q:=fun e a' w' => ∃ G' σ', Ex B G w G' w' ∧ Rel N G' σ' a' w' ∧ Fr rd lo G' a' w' ∧ Q e σ') (KP:=fun τ => Q (.panic panCH) (panE (lv.lookup (9700000+id)) τ)) (B:=B) (G0:=G) (w0:=w) (ds:=a.defers)
     (fun a' w' G' σ' hE hR' hd hK=>⟨G', _,hE,Qvw hR' _,hF.ext hE.ext hd,hK⟩) t k _ σ a { w with drawn:=w.drawn+1 } G (by rw[hops]; exact h1.2) (hd.ex B) ⟨hR.inv.drewN _,hR.env.mono hd,hR.size⟩ rfl h2
    rw[hops] at this
    exact this
 | false =>
  refine wpIn_region ?_
  have:=Qkq hT (rd:=rd) (ops:=ops.toList) (Q:=fun e a' w' => ∃ G' σ', Ex B G w G' w' ∧ Rel N G' σ' a' w' ∧ Fr rd lo G' a' w' ∧ Q e σ') (G0:=G) (w0:=w) (ds:=a.defers) (fun a' w' G' σ' hE hR' hd hK=>⟨G', _,hE,Qee hR' _,hF.ext hE.ext hd,hK⟩)
   (fun a' w' G' σ' hE hR' hd hK=>⟨G', _,hE,Qvw hR' _,hF.ext hE.ext hd,hK⟩) _ σ a w G (.refl B G w) hR rfl h
  rw[hops] at this
  simpa using this
theorem Qan (hm:P.follows .mixedOrders=true) (hT:TblOk P tb) {B:Nat×Nat} {N:Nat} {lv:List (Nat×List Nat)}:∀ (c:Code) (Q:Exit→St→Prop) (σ : St),bwp B P tb N lv c Q σ → T B P N c Q σ
 | .skip,Q,σ,h=>⟨fun rd lo G a w hR hF=>wpIn_skip ⟨G,σ,.refl B G w,hR,hF,h⟩⟩
 | .label l,Q,σ,h=>⟨fun rd lo G a w hR hF=>wpIn_label ⟨G,σ,.refl B G w,hR,hF,h⟩⟩
 | .exit id,Q,σ,h=>⟨fun rd lo G a w hR hF=>wpIn_exit ⟨G,σ,.refl B G w,hR,hF,h⟩⟩
 | .ret,Q,σ,h=>⟨fun rd lo G a w hR hF=>wpIn_ret ⟨G,σ,.refl B G w,hR,hF,h⟩⟩
 | .goto l,Q,σ,h=>⟨fun rd lo G a w hR hF=>wpIn_goto ⟨G,σ,.refl B G w,hR,hF,h⟩⟩
 | .scope b,Q,σ,h=>by
  obtain⟨M,h1,h2⟩:=h
  exact T_up h1 h2
 | .region id ops dr,Q,σ,h=>by
  unfold bwp at h
  split at h
  ·split at h
   ·exact Qoi hm hT h
   ·obtain⟨τ,hl,h⟩:=h
    exact T_le hl (Qoi hm hT h)
  ·obtain⟨τ,hl,h⟩:=h
   exact T_le hl (Qxc hm hT h)
 | .seq x y,Q,σ,h=>by
  unfold bwp at h
  split at h
  ·refine T_seq (Qan hm hT x _ σ h) fun e σ' hq=>?_
   cases e with
   | normal=>exact Qan hm hT y Q σ' hq
   | _=>exact hq
  ·obtain⟨M,h1,h2⟩:=h
   refine T_seq (T_up (Q:=fun e τ => match e with | .normal=>bwp B P tb N lv y Q τ | e=>Q e τ) (Qan hm hT x M σ h1) h2) fun e σ' hq=>?_
   cases e with
   | normal=>exact Qan hm hT y Q σ' hq
   | _=>exact hq
 | .cond c x y,Q,σ,h =>.mk fun rd lo G a w hR hF=>by
  unfold bwp at h
  split at h
  ·rename_i b hb
   have hc:=Qp5 hR.env c _ hb
   have hv:a.eval c = .bool b:=by
    generalize a.eval c=q at hc
    cases hc with | p _ _ hc=>cases hc; rfl
   exact wpIn_cond_split hv (fun hb=>(Qan hm hT x Q σ (h.1 hb)).out rd lo G a w hR hF) (fun hb=>(Qan hm hT y Q σ (h.2 hb)).out rd lo G a w hR hF)
  ·exact h.elim
 | .block id b,Q,σ,h =>.mk fun rd lo G a w hR hF=>by
  refine wpIn_block (wpIn_mono ((Qan hm hT b _ σ h).out rd lo G a w hR hF) fun e a' w' ⟨G', σ', hE,hR', hF', hq⟩=>?_)
  cases e with
  | normal=>exact⟨G', σ', hE,hR', hF', hq⟩
  | exit i =>
   have hq:if i=id then Q .normal σ' else Q (.exit i) σ' := hq
   show if i=id then _ else _
   split
   ·rename_i hi; rw[if_pos hi] at hq; exact⟨G', σ', hE,hR', hF', hq⟩
   ·rename_i hi; rw[if_neg hi] at hq; exact⟨G', σ', hE,hR', hF', hq⟩
  | goto l=>exact⟨G', σ', hE,hR', hF', hq⟩
  | ret=>exact⟨G', σ', hE,hR', hF', hq⟩
  | panic ch=>exact⟨G', σ', hE,hR', hF', hq⟩
  | outgrown=>exact⟨G', σ', hE,hR', hF', hq⟩
 | .loop b,Q,σ,h=>by
  obtain⟨M,h1,h2⟩:=h
  exact Q00 _ (T_up h1 h2)
 | .rangeFunc g ps x y,Q,σ,h=>by
  obtain⟨M,h1,h2⟩:=h
  exact Q00 _ (T_up h1 h2)
 | .refuse _,_,_,h=>h.elim
structure TL (B:Nat×Nat) (P:Program) (N:Nat) (c:Code) (Q:Exit→St→Prop) (σ : St):Prop where
 out:∀ rd lo G a w,Rel N G σ a w→Fr rd lo G a w→∀ (b:Frame) (k:List Item) (cs:List Frame),b.roundOf=rd→∃ e a' w', (∃ G' σ', Ex B G w G' w' ∧ Rel N G' σ' a' w' ∧ Fr rd lo G' a' w' ∧ Q e σ') ∧
  ArrivesIn (Machine.fenced P (FW rd)) P (lone (b.atR a (.code c :: .inLoop c::k)) cs w) b k cs e a' w'
theorem TL.loop {B:Nat×Nat} {N:Nat} {c:Code} {Q:Exit→St→Prop} {σ : St} (h:TL B P N c Q σ):T B P N (.loop c) Q σ := ⟨fun rd lo G a w hR hF b k cs hro hb hr=>by
 obtain⟨e,a', w', hq,harr⟩:=h.out rd lo G a w hR hF b k cs (hro.trans (Qkl rd))
 exact⟨e,a', w', hq,.of_steps (.one (fenced_calm hb hr rfl) stepR_loop) harr⟩⟩
theorem TL.le {B:Nat×Nat} {N:Nat} {c:Code} {Q:Exit→St→Prop} {σ τ : St} (h:Le B N σ τ) (k:TL B P N c Q τ):TL B P N c Q σ := ⟨fun rd lo G a w hR hF b ks cs hro=>by
 obtain⟨G1,e1,r1⟩:=h.out G a w hR
 obtain⟨e,a', w', ⟨G', σ', hE,hR', hF', hq⟩,harr⟩:=k.out rd lo G1 a w r1 (hF.ext e1.ext rfl) b ks cs hro
 exact⟨e,a', w', ⟨G', σ', e1.trans hE,hR', hF', hq⟩,harr⟩⟩
theorem TL.round {B:Nat×Nat} {N:Nat} {c:Code} {Q:Exit→St→Prop} {σ : St} (h:T B P N c (fun e σ' => match e with | .normal=>TL B P N c Q σ' | e=>Q e σ') σ):TL B P N c Q σ := ⟨fun rd lo G a w hR hF b k cs hro=>by
 obtain⟨e,a₁,w₁,⟨G₁,σ₁,hE₁,hR₁,hF₁,hq⟩,harr⟩:=h.out rd lo G a w hR hF b (.inLoop c::k) cs (hro.trans (Qkl rd).symm) (FW_fn _ _) (Qmn _ _)
 cases e with
 | normal =>
  obtain⟨e₂,a₂,w₂,⟨G₂,σ₂,hE₂,hR₂,hF₂,hq₂⟩,harr₂⟩:=hq.out rd lo G₁ a₁ w₁ hR₁ hF₁ b k cs hro
  exact⟨e₂,a₂,w₂,⟨G₂,σ₂,hE₁.trans hE₂,hR₂,hF₂,hq₂⟩,.of_steps (StepsIn.trans harr (.one (fenced_calm (n:=0) (FW_fn _ _) (Qmn _ _) rfl) stepR_inLoop)) harr₂⟩
 | exit id=>exact⟨_,a₁,w₁,⟨G₁,σ₁,hE₁,hR₁,hF₁,hq⟩,.pass (x :=.inLoop c) rfl (fun _ _ =>.inl (by simp)) harr⟩
 | goto l=>exact⟨_,a₁,w₁,⟨G₁,σ₁,hE₁,hR₁,hF₁,hq⟩,.pass (x :=.inLoop c) rfl (fun _ _ =>.inl (by simp)) harr⟩
 | ret=>exact⟨_,a₁,w₁,⟨G₁,σ₁,hE₁,hR₁,hF₁,hq⟩,.pass (x :=.inLoop c) rfl (fun _ _ =>.inl (by simp)) harr⟩
 | panic ch=>exact⟨_,a₁,w₁,⟨G₁,σ₁,hE₁,hR₁,hF₁,hq⟩,.pass (x :=.inLoop c) rfl (fun _ _ =>.inl (by simp)) harr⟩
 | outgrown=>exact⟨_,a₁,w₁,⟨G₁,σ₁,hE₁,hR₁,hF₁,hq⟩,.pass (x :=.inLoop c) rfl (fun _ _ =>.inl (by simp)) harr⟩⟩
theorem Qui {b:Frame} {a:Act} {k:List Item} {cs:List Frame} {w:World} {c:Code}:step P (lone (b.atR a (.code (.scope c)::k)) cs w) = .next (lone (b.atR a (.code c :: .inScope c::k)) cs w) :=
 step_lone_go (by simp[stepG,stepG.exec,Frame.atR])
theorem Qrb {b:Frame} {a:Act} {k:List Item} {cs:List Frame} {w:World} {c:Code}:step P (lone (b.atR a (.inScope c::k)) cs w) = .next (lone (b.atR a k) cs w) :=
 step_lone_go (by simp[stepG,stepG.exec,Frame.atR])
structure TG (B:Nat×Nat) (P:Program) (N:Nat) (s c:Code) (Q:Exit→St→Prop) (σ : St):Prop where
 out:∀ rd lo G a w,Rel N G σ a w→Fr rd lo G a w→∀ (b:Frame) (k:List Item) (cs:List Frame),b.roundOf=rd→∃ e a' w', (∃ G' σ', Ex B G w G' w' ∧ Rel N G' σ' a' w' ∧ Fr rd lo G' a' w' ∧ Q e σ') ∧
  ArrivesIn (Machine.fenced P (FW rd)) P (lone (b.atR a (.code c :: .inScope s::k)) cs w) b k cs e a' w'
def gotoQ (B:Nat×Nat) (P:Program) (N:Nat) (s:Code) (l:Nat) (Q:Exit→St→Prop) (σ : St):Prop:=∃ rest,findLabel s l=some rest∧TG B P N s rest Q σ
theorem TG.scope {B:Nat×Nat} {N:Nat} {s:Code} {Q:Exit→St→Prop} {σ : St} (h:TG B P N s s Q σ):T B P N (.scope s) Q σ := ⟨fun rd lo G a w hR hF b k cs hro hb hr=>by
 obtain⟨e,a', w', hq,harr⟩:=h.out rd lo G a w hR hF b k cs (hro.trans (Qkl rd))
 exact⟨e,a', w', hq,.of_steps (.one (fenced_calm hb hr rfl) Qui) harr⟩⟩
theorem TG.le {B:Nat×Nat} {N:Nat} {s c:Code} {Q:Exit→St→Prop} {σ τ : St} (h:Le B N σ τ) (k:TG B P N s c Q τ):TG B P N s c Q σ := ⟨fun rd lo G a w hR hF b ks cs hro=>by
 obtain⟨G1,e1,r1⟩:=h.out G a w hR
 obtain⟨e,a', w', ⟨G', σ', hE,hR', hF', hq⟩,harr⟩:=k.out rd lo G1 a w r1 (hF.ext e1.ext rfl) b ks cs hro
 exact⟨e,a', w', ⟨G', σ', e1.trans hE,hR', hF', hq⟩,harr⟩⟩
theorem Qgf {rd:Option Nat} {m:Machine} {b:Frame} {s:Code} {k:List Item} {cs:List Frame} {e:Exit} {a:Act} {w:World} (hn:e ≠ .normal) (hg:∀ l,e ≠ .goto l) (h:ArrivesIn (Machine.fenced P (FW rd)) P m b (.inScope s::k) cs e a w):ArrivesIn (Machine.fenced P (FW rd)) P m b k cs e a w:=by
 cases e with
 | normal=>exact absurd rfl hn
 | exit id=>exact⟨fun k' hk=>h.1 k' (by simpa [exitTo] using hk),fun hr hk=>h.2 hr (by simpa [exitTo] using hk)⟩
 | goto l=>exact absurd rfl (hg l)
 | ret=>exact h
 | panic ch=>exact h
 | outgrown=>exact h
theorem TG.last {B:Nat×Nat} {N:Nat} {s c:Code} {Q:Exit→St→Prop} {σ : St} (h:T B P N c (fun e σ' => match e with | .goto l=>gotoQ B P N s l Q σ' | e=>Q e σ') σ):TG B P N s c Q σ := ⟨fun rd lo G a w hR hF b k cs hro=>by
 obtain⟨e,a₁,w₁,⟨G₁,σ₁,hE₁,hR₁,hF₁,hq⟩,harr⟩:=h.out rd lo G a w hR hF b (.inScope s::k) cs (hro.trans (Qkl rd).symm) (FW_fn _ _) (Qmn _ _)
 cases e with
 | normal=>exact⟨.normal,a₁,w₁,⟨G₁,σ₁,hE₁,hR₁,hF₁,hq⟩,StepsIn.trans harr (.one (fenced_calm (n:=0) (FW_fn _ _) (Qmn _ _) rfl) Qrb)⟩
 | goto l =>
  obtain⟨rest,hf,hq⟩:=hq
  obtain⟨e₂,a₂,w₂,⟨G₂,σ₂,hE₂,hR₂,hF₂,hq₂⟩,harr₂⟩:=hq.out rd lo G₁ a₁ w₁ hR₁ hF₁ b k cs hro
  exact⟨e₂,a₂,w₂,⟨G₂,σ₂,hE₁.trans hE₂,hR₂,hF₂,hq₂⟩,.of_steps (harr.1 _ (by simp[gotoIn,hf])) harr₂⟩
 | exit id=>exact⟨_,a₁,w₁,⟨G₁,σ₁,hE₁,hR₁,hF₁,hq⟩,Qgf (by simp) (by simp) harr⟩
 | ret=>exact⟨_,a₁,w₁,⟨G₁,σ₁,hE₁,hR₁,hF₁,hq⟩,Qgf (by simp) (by simp) harr⟩
 | panic ch=>exact⟨_,a₁,w₁,⟨G₁,σ₁,hE₁,hR₁,hF₁,hq⟩,Qgf (by simp) (by simp) harr⟩
 | outgrown=>exact⟨_,a₁,w₁,⟨G₁,σ₁,hE₁,hR₁,hF₁,hq⟩,Qgf (by simp) (by simp) harr⟩⟩
theorem TG.seq {B:Nat×Nat} {N:Nat} {s x y:Code} {Q:Exit→St→Prop} {σ : St} (h:T B P N x (fun e σ' => match e with | .normal=>TG B P N s y Q σ' | .goto l=>gotoQ B P N s l Q σ' | e=>Q e σ') σ):TG B P N s (.seq x y) Q σ := ⟨fun rd lo G a w hR hF b k cs hro=>by
 obtain⟨e,a₁,w₁,⟨G₁,σ₁,hE₁,hR₁,hF₁,hq⟩,harr⟩:=h.out rd lo G a w hR hF b (.code y :: .inScope s::k) cs (hro.trans (Qkl rd).symm) (FW_fn _ _) (Qmn _ _)
 have h0:(lone (b.atR a (.code (.seq x y) :: .inScope s::k)) cs w).fenced P (FW rd):=fenced_calm (n:=0) (FW_fn _ _) (Qmn _ _) rfl
 have pass:∀ {e},e≠Exit.normal→ArrivesIn (Machine.fenced P (FW rd)) P (lone (b.atR a (.code x :: .code y :: .inScope s::k)) cs w) b (.code y :: .inScope s::k) cs e a₁ w₁ → ArrivesIn (Machine.fenced P (FW rd)) P (lone (b.atR a (.code x :: .code y :: .inScope s::k)) cs w) b (.inScope s::k) cs e a₁ w₁ := fun he h =>.pass (x :=.code y) rfl (fun _ _ =>.inl he) h
 cases e with
 | normal =>
  obtain⟨e₂,a₂,w₂,⟨G₂,σ₂,hE₂,hR₂,hF₂,hq₂⟩,harr₂⟩:=hq.out rd lo G₁ a₁ w₁ hR₁ hF₁ b k cs hro
  exact⟨e₂,a₂,w₂,⟨G₂,σ₂,hE₁.trans hE₂,hR₂,hF₂,hq₂⟩,.of_steps (.head h0 stepR_seq harr) harr₂⟩
 | goto l =>
  obtain⟨rest,hf,hq⟩:=hq
  obtain⟨e₂,a₂,w₂,⟨G₂,σ₂,hE₂,hR₂,hF₂,hq₂⟩,harr₂⟩:=hq.out rd lo G₁ a₁ w₁ hR₁ hF₁ b k cs hro
  exact⟨e₂,a₂,w₂,⟨G₂,σ₂,hE₁.trans hE₂,hR₂,hF₂,hq₂⟩,.of_steps (.head h0 stepR_seq (harr.1 _ (by simp[gotoIn,hf]))) harr₂⟩
 | exit id=>exact⟨_,a₁,w₁,⟨G₁,σ₁,hE₁,hR₁,hF₁,hq⟩,.of_steps (.one h0 stepR_seq) (Qgf (by simp) (by simp) (pass (by simp) harr))⟩
 | ret=>exact⟨_,a₁,w₁,⟨G₁,σ₁,hE₁,hR₁,hF₁,hq⟩,.of_steps (.one h0 stepR_seq) (Qgf (by simp) (by simp) (pass (by simp) harr))⟩
 | panic ch=>exact⟨_,a₁,w₁,⟨G₁,σ₁,hE₁,hR₁,hF₁,hq⟩,.of_steps (.one h0 stepR_seq) (Qgf (by simp) (by simp) (pass (by simp) harr))⟩
 | outgrown=>exact⟨_,a₁,w₁,⟨G₁,σ₁,hE₁,hR₁,hF₁,hq⟩,.of_steps (.one h0 stepR_seq) (Qgf (by simp) (by simp) (pass (by simp) harr))⟩⟩
theorem TG.label {B:Nat×Nat} {N:Nat} {s y:Code} {l:Nat} {Q:Exit→St→Prop} {σ : St} (h:TG B P N s y Q σ):TG B P N s (.seq (.label l) y) Q σ :=.seq ⟨fun rd lo G a w hR hF=>wpIn_label ⟨G,σ,.refl B G w,hR,hF,h⟩⟩
theorem TG.skip {B:Nat×Nat} {N:Nat} {s y:Code} {Q:Exit→St→Prop} {σ : St} (h:TG B P N s y Q σ):TG B P N s (.seq .skip y) Q σ :=.seq ⟨fun rd lo G a w hR hF=>wpIn_skip ⟨G,σ,.refl B G w,hR,hF,h⟩⟩
def behind (s:Code) (l:Nat):Code:=match findLabel s l with
 | some (.seq .skip y)=>y
 | _ =>.skip
theorem TG.seqj (hm:P.follows .mixedOrders=true) (hT:TblOk P tb) {B:Nat×Nat} {N:Nat} {lv:List (Nat×List Nat)} {s x y:Code} {Q:Exit→St→Prop} {σ : St} (h:∃ M:Exit→St→Prop,bwp B P tb N lv x M σ ∧ ∀ e σ', M e σ' → ∃ τ,Le B N σ' τ ∧ (match e with | .normal=>TG B P N s y Q τ | .goto l=>gotoQ B P N s l Q τ | e=>Q e τ)):TG B P N s (.seq x y) Q σ := by
 obtain⟨M,h1,h2⟩:=h
 exact .seq (T_up (Qan hm hT x M σ h1) h2)
theorem TG.seqb (hm:P.follows .mixedOrders=true) (hT:TblOk P tb) {B:Nat×Nat} {N:Nat} {lv:List (Nat×List Nat)} {s x y:Code} {Q:Exit→St→Prop} {σ : St} (h:bwp B P tb N lv x (fun e σ' => match e with | .normal=>TG B P N s y Q σ' | .goto l=>gotoQ B P N s l Q σ' | e=>Q e σ') σ):TG B P N s (.seq x y) Q σ :=.seq (Qan hm hT x _ σ h)
theorem TG.lastb (hm:P.follows .mixedOrders=true) (hT:TblOk P tb) {B:Nat×Nat} {N:Nat} {lv:List (Nat×List Nat)} {s c:Code} {Q:Exit→St→Prop} {σ : St} (h:bwp B P tb N lv c (fun e σ' => match e with | .goto l=>gotoQ B P N s l Q σ' | e=>Q e σ') σ):TG B P N s c Q σ :=.last (Qan hm hT c _ σ h)
inductive LeE (env:Env):Env→Prop where
 | nil:LeE env []
 | cons {t:Nat} {d d' : D} {r:Env}:env.lookup t=some d→LeD d d' → LeE env r→LeE env ((t,d')::r)
inductive LeC:List D→List D→Prop where
 | nil:LeC [] []
 | cons {d d' : D} {r r' : List D}:LeD d d' → LeC r r' → LeC (d::r) (d' :: r')
inductive LeH:List (List D)→List (List D)→Prop where
 | nil:LeH [] []
 | cons {d d' : List D} {r r' : List (List D)}:LeC d d' → LeH r r' → LeH (d::r) (d' :: r')
theorem LeC.refl:∀ l,LeC l l
 | [] =>.nil
 | d::r =>.cons (.refl d) (LeC.refl r)
theorem LeH.refl:∀ l,LeH l l
 | [] =>.nil
 | d::r =>.cons (.refl d) (LeH.refl r)
theorem LeH.app {a a' b b' : List (List D)} (h:LeH a a') (k:LeH b b'):LeH (a++b) (a' ++ b'):=by
 induction h with
 | nil=>exact k
 | cons h1 _ ih=>exact .cons h1 ih
theorem LeE.look {env env' : Env} (h:LeE env env'):∀ {t:Nat} {d' : D},env'.lookup t=some d' → ∃ d,env.lookup t=some d∧LeD d d' := by
 induction h with
 | nil=>intro t d' h; cases h
 | @cons t0 d d0 r hl hd _ ih =>
  intro t d' h
  rw[List.lookup_cons] at h
  by_cases ht:t=t0
  ·subst ht
   simp only[beq_self_eq_true,Option.some.injEq] at h
   subst h
   exact⟨d,hl,hd⟩
  ·have hb:(t==t0)=false:=by simpa using ht
   rw[hb] at h
   exact ih h
theorem LeC.get {l l' : List D} (h:LeC l l'):l.length=l'.length∧∀ (j:Nat) d', l'[j]? = some d' → ∃ d,l[j]? = some d∧LeD d d' := by
 induction h with
 | nil=>exact⟨rfl,fun j d' h=>by simp at h⟩
 | @cons d d0 r r' hd _ ih =>
  refine⟨by simp[ih.1],fun j d' hj=>?_⟩
  cases j with
  | zero=>simp at hj; subst hj; exact⟨d,rfl,hd⟩
  | succ j=>exact ih.2 j d' (by simpa using hj)
theorem LeH.get {l l' : List (List D)} (h:LeH l l'):l.length=l'.length∧∀ (j:Nat) d', l'[j]? = some d' → ∃ d,l[j]? = some d∧LeC d d' := by
 induction h with
 | nil=>exact⟨rfl,fun j d' h=>by simp at h⟩
 | @cons d d0 r r' hd _ ih =>
  refine⟨by simp[ih.1],fun j d' hj=>?_⟩
  cases j with
  | zero=>simp at hj; subst hj; exact⟨d,rfl,hd⟩
  | succ j=>exact ih.2 j d' (by simpa using hj)
theorem MapRows.le {C:Nat→Nat→Prop} {w:World} {ms ms' : List (List V)} {es:Array MapEntry} (h:MapRows C w ms es) (hl:ms.length=ms'.length) (hk:∀ (i:Nat) e e', ms[i]? = some e→ms'[i]? = some e' → e.length=e'.length)
  (hv:∀ (i:Nat) e e', ms[i]? = some e→ms'[i]? = some e' → ∀ (k:Nat) c c', e[k]? = some c→e'[k]? = some c' → LeV c c'):MapRows C w ms' es:=by
 refine⟨by rw[← hl]; exact h.1,fun i m' e hm' he=>?_⟩
 obtain⟨m,hm⟩:=getLen hl hm'
 obtain⟨k,v,rfl,h1,h2⟩:=h.2 i m e hm he
 have hlen:=hk i _ m' hm hm'
 match m', hlen,hm' with
 | [k', v'],_,hm' => exact⟨k', v', rfl,h1.le (hv i _ _ hm hm' 0 k k' rfl rfl),h2.le (hv i _ _ hm hm' 1 v v' rfl rfl)⟩
theorem VarAt.le {G:Gh} {w:World} {b:Nat} {cs cs' : List D} (h:VarAt G w b cs) (l1:cs'.length=cs.length) (l2:∀ (j:Nat) d', cs'[j]? = some d' → ∃ d,cs[j]? = some d∧LeD d d'):VarAt G w b cs' := by
 cases h with
 | cells us ty h1 h2 h3 =>
  refine .cells us ty h1 (by rw[h2]; exact l1.symm) fun j c' u hc' hu=>?_
  obtain⟨c,hc,hd⟩:=l2 j c' hc'
  obtain⟨g1,g2⟩:=h3 j c u hc hu
  exact⟨g1,g2.le hd⟩
 | map fl ms es clock h1 h2 h3 =>
  subst h1
  match cs', l1,l2 with
  | [d'],_,l2 =>
   obtain⟨d,hd,hle⟩:=l2 0 d' rfl
   have hd:D.tup [.p (.sl fl ms)]=d:=Option.some.inj hd
   cases hle with
   | refl=>exact .map fl ms es clock (by rw[hd]) h2 h3
   | p=>cases hd
   | own=>cases hd
   | drop=>cases hd
   | @tup xs ys k =>
    injection hd with hd
    obtain⟨x,rfl,e⟩:=Qt2 hd.symm
    injection e with e
    subst e
    obtain⟨k1,k2⟩:=k
    match ys,k1,k2 with
    | [y],_,k2 =>
     have hv:=k2 0 _ _ rfl rfl
     cases hv with
     | refl=>exact .map fl ms es clock rfl h2 h3
     | sl _ f' _ ms' _ q1 q2 q3=>exact .map f' ms' es clock rfl h2 (h3.le q1 q2 q3)
theorem Inv.le {G:Gh} {h h' : List (List D)} {live:List Nat} {w:World} (hI:Inv G ⟨h,live⟩ w) (k:LeH h h'):Inv G ⟨h', live⟩ w:=by
 obtain⟨k1,k2⟩:=k.get
 refine⟨hI.com,by rw[hI.names]; exact k1,hI.nodup,fun i b cs' hb hcs' => ?_,hI.live,hI.tok,hI.pro,hI.glob⟩
 obtain⟨cs,hcs,hle⟩:=k2 i cs' hcs'
 obtain⟨l1,l2⟩:=hle.get
 exact(hI.var i b cs hb hcs).le l1.symm l2
theorem Le.weak {B:Nat×Nat} {N:Nat} {env env' : Env} {h h' : List (List D)} {live live' : List Nat} (he:LeE env env') (hh:LeH h h') (hl:live=live'):Le B N ⟨env,⟨h,live⟩⟩ ⟨env', ⟨h', live'⟩⟩:=⟨fun G a w hR=>by
 subst hl
 refine⟨G,.refl B G w,⟨hR.inv.le hh,fun t d' hd=>?_,hR.size⟩⟩
 obtain⟨d,h1,h2⟩:=he.look hd
 obtain⟨k1,k2⟩:=hR.env t d h1
 exact⟨k1,k2.le h2⟩⟩
theorem Le.tow (k m:Nat) {B:Nat×Nat} {N:Nat} {env env1 env' : Env} {s:S} {h' : List (List D)} {live' : List Nat} (h:keepE k m env=some env1) (he:LeE env1 env') (hh:LeH (s.heap.take k) h') (hlv:s.live.take m=live')
  (h1:B.1≤k:=by exact Nat.le_of_ble_eq_true rfl) (h2:B.2≤m:=by exact Nat.le_of_ble_eq_true rfl)
  (hl:(s.heap.take k).all (fun cs=>cs.all (D.lt k m))=true:=by exact rfl):Le B N ⟨env,s⟩ ⟨env', ⟨h', live'⟩⟩ :=
 (Le.to k m (τ := ⟨env1,⟨s.heap.take k,s.live.take m⟩⟩) (by rw[h]; rfl) h1 h2 hl).trans (Le.weak he hh hlv)
def selE (env:Env):List Nat→Option Env
 | []=>some []
 | t::r=>match env.lookup t,selE env r with
  | some d,some l=>some ((t,d)::l)
  | _,_=>none
theorem Qyf {env:Env}:∀ (l:List Nat) (env' : Env),selE env l=some env' → LeE env env'
 | [],env', h=>by cases h; exact .nil
 | t::r,env', h=>by
  unfold selE at h
  split at h
  ·rename_i d l h1 h2
   cases h
   exact .cons h1 (.refl _) (Qyf r l h2)
  ·cases h
theorem Le.tz (k m:Nat) {B:Nat×Nat} {N:Nat} {env env1 env' : Env} {s:S} {live' : List Nat} (h:keepE k m env=some env1) (he:selE env1 (env'.map (·.1))=some env') (hlv:s.live.take m=live')
  (h1:B.1≤k:=by exact Nat.le_of_ble_eq_true rfl) (h2:B.2≤m:=by exact Nat.le_of_ble_eq_true rfl)
  (hl:(s.heap.take k).all (fun cs=>cs.all (D.lt k m))=true:=by exact rfl):Le B N ⟨env,s⟩ ⟨env', ⟨s.heap.take k,live'⟩⟩:=Le.tow k m h (Qyf _ _ he) (.refl _) hlv h1 h2 hl
theorem xle {B:Nat×Nat} {N:Nat} {σ : St} {K:St→Prop} (h:K σ):∃ τ,Le B N σ τ ∧ K τ := ⟨σ,.refl _ _ _,h⟩
section
variable {A C E:Type} {B:Nat×Nat} {N:Nat}
def JP1 (B:Nat×Nat) (N:Nat) (o:A) (e1:Exit) (st1:A→St):Exit→St→Prop:=fun e σ => e=e1∧Le B N σ (st1 o)
def JP2 (B:Nat×Nat) (N:Nat) (o:A⊕C) (e1:Exit) (st1:A→St) (e2:Exit) (st2:C→St):Exit→St→Prop:=fun e σ => (e=e1∧∃ y,o = .inl y∧Le B N σ (st1 y))∨(e=e2∧∃ y,o = .inr y∧Le B N σ (st2 y))
def JP3 (B:Nat×Nat) (N:Nat) (o:A⊕C⊕E) (e1:Exit) (st1:A→St) (e2:Exit) (st2:C→St) (e3:Exit) (st3:E→St):Exit→St→Prop:=fun e σ =>
 (e=e1∧∃ y,o = .inl y∧Le B N σ (st1 y))∨(e=e2∧∃ y,o = .inr (.inl y)∧Le B N σ (st2 y))∨(e=e3∧∃ y,o = .inr (.inr y)∧Le B N σ (st3 y))
theorem JP1.a {o y:A} {e1:Exit} {st1:A→St} {σ : St} (h:some y=some o) (hl:Le B N σ (st1 y)):JP1 B N o e1 st1 e1 σ := by cases h; exact⟨rfl,hl⟩
theorem JP2.a {o:A⊕C} {y:A} {e1 e2:Exit} {st1:A→St} {st2:C→St} {σ : St} (h:some (.inl y)=some o) (hl:Le B N σ (st1 y)):JP2 B N o e1 st1 e2 st2 e1 σ := by cases h; exact .inl ⟨rfl,y,rfl,hl⟩
theorem JP2.b {o:A⊕C} {y:C} {e1 e2:Exit} {st1:A→St} {st2:C→St} {σ : St} (h:some (.inr y)=some o) (hl:Le B N σ (st2 y)):JP2 B N o e1 st1 e2 st2 e2 σ := by cases h; exact .inr ⟨rfl,y,rfl,hl⟩
theorem JP3.a {o:A⊕C⊕E} {y:A} {e1 e2 e3:Exit} {st1:A→St} {st2:C→St} {st3:E→St} {σ : St} (h:some (.inl y)=some o) (hl:Le B N σ (st1 y)):JP3 B N o e1 st1 e2 st2 e3 st3 e1 σ := by cases h; exact .inl ⟨rfl,y,rfl,hl⟩
theorem JP3.b {o:A⊕C⊕E} {y:C} {e1 e2 e3:Exit} {st1:A→St} {st2:C→St} {st3:E→St} {σ : St} (h:some (.inr (.inl y))=some o) (hl:Le B N σ (st2 y)):JP3 B N o e1 st1 e2 st2 e3 st3 e2 σ := by cases h; exact .inr (.inl ⟨rfl,y,rfl,hl⟩)
theorem JP3.c {o:A⊕C⊕E} {y:E} {e1 e2 e3:Exit} {st1:A→St} {st2:C→St} {st3:E→St} {σ : St} (h:some (.inr (.inr y))=some o) (hl:Le B N σ (st3 y)):JP3 B N o e1 st1 e2 st2 e3 st3 e3 σ := by cases h; exact .inr (.inr ⟨rfl,y,rfl,hl⟩)
theorem join1 {o:A} {e1:Exit} {st1:A→St} {G:Exit→St→Prop} (k:G e1 (st1 o)):∀ e σ,JP1 B N o e1 st1 e σ → ∃ τ,Le B N σ τ ∧ G e τ := fun e σ ⟨he,hl⟩=>he ▸ ⟨_,hl,k⟩
theorem join2 {o:A⊕C} {e1 e2:Exit} {st1:A→St} {st2:C→St} {G:Exit→St→Prop} (k1:∀ y,o = .inl y→G e1 (st1 y)) (k2:∀ y,o = .inr y→G e2 (st2 y)):∀ e σ,JP2 B N o e1 st1 e2 st2 e σ → ∃ τ,Le B N σ τ ∧ G e τ := fun e σ h=>by
 rcases h with ⟨he,y,ho,hl⟩ | ⟨he,y,ho,hl⟩
 ·exact he ▸ ⟨_,hl,k1 y ho⟩
 ·exact he ▸ ⟨_,hl,k2 y ho⟩
theorem join3 {o:A⊕C⊕E} {e1 e2 e3:Exit} {st1:A→St} {st2:C→St} {st3:E→St} {G:Exit→St→Prop} (k1:∀ y,o = .inl y→G e1 (st1 y)) (k2:∀ y,o = .inr (.inl y)→G e2 (st2 y)) (k3:∀ y,o = .inr (.inr y)→G e3 (st3 y)):∀ e σ,JP3 B N o e1 st1 e2 st2 e3 st3 e σ → ∃ τ,Le B N σ τ ∧ G e τ := fun e σ h=>by
 rcases h with ⟨he,y,ho,hl⟩ | ⟨he,y,ho,hl⟩ | ⟨he,y,ho,hl⟩
 ·exact he ▸ ⟨_,hl,k1 y ho⟩
 ·exact he ▸ ⟨_,hl,k2 y ho⟩
 ·exact he ▸ ⟨_,hl,k3 y ho⟩
end
theorem bT {φ ψ : Prop} (h : φ):(true=true → φ)∧(true=false → ψ):=And.intro (fun _=>h) (fun e=>nomatch e)
theorem bF {φ ψ : Prop} (h : φ):(false=true → ψ)∧(false=false → φ):=And.intro (fun e=>nomatch e) (fun _=>h)
theorem sizeNil {sz:Nat}:∀ x ∈ ([]:List (List V)),x.length=sz:=fun x hx=>nomatch hx
theorem mapSize {α : Type} {c : α → List V} {l:List α} {sz:Nat} (h:∀ x,(c x).length=sz):∀ x ∈ l.map c,x.length=sz:=fun x hx=>by
 obtain⟨z,-,rfl⟩:=List.mem_map.1 hx; exact h z
section
variable {R:Type}
theorem Qaf {b:Bool} {X Y:Option R} {r:R} {φ ψ : Prop} (h:(if b=true then X else Y)=some r) (k1:b=true→X=some r → φ) (k2:b=false→Y=some r → ψ):(b=true → φ)∧(b=false → ψ) :=
 ⟨fun e=>k1 e (by rw[e] at h; exact h),fun e=>k2 e (by rw[e] at h; exact h)⟩
theorem Qah {α : Type} {x:Option α} {f : α → Option R} {r:R} {φ : Prop} (h:(x>>=f)=some r) (k:∀ y,x=some y→f y=some r → φ) : φ := by
 obtain⟨y,hy,hf⟩:=Option.bind_eq_some_iff.1 h
 exact k y hy hf
def idx {α : Type} (l:List α) (i:Int):Option α := if 0≤i then l[i.toNat]? else none
theorem Qm9 {α : Type} {l:List α} {i:Int} {c c' : α → List V} {f : α → Option R} {r:R} {sz:Nat} {K:List V→Prop} (h:(idx l i>>=f)=some r) (hc:∀ x,c x=c' x) (hs:∀ x,(c' x).length=sz) (hz:0<sz) (k:∀ x,idx l i=some x→f x=some r→K (c' x)) :
  ∃ cell,0≤i∧(l.map c)[i.toNat]? = some cell∧cell.length=sz∧0<sz∧K cell:=by
 refine Qah h fun x hx hf=>?_
 have hk:=k x hx hf
 unfold idx at hx
 split at hx
 ·rename_i hi
  exact⟨c' x,hi,by rw[List.getElem?_map,hx,Option.map_some,hc],hs x,hz,hk⟩
 ·cases hx
theorem Qff {l:List UInt8} {i:Int} {f:UInt8→Option R} {r:R} {K:UInt8→Prop} (h:(idx l i>>=f)=some r) (k:∀ x,idx l i=some x→f x=some r→K x):∃ c,0≤i∧l[i.toNat]? = some c∧K c:=by
 refine Qah h fun x hx hf=>?_
 have hk:=k x hx hf
 unfold idx at hx
 split at hx
 ·rename_i hi
  exact⟨x,hi,hx,hk⟩
 ·cases hx
def need (p:Prop) [Decidable p]:Option Unit:=if p then some () else none
theorem Qoj {p:Prop} [Decidable p] {f:Unit→Option R} {r:R} {φ : Prop} (h:(need p>>=f)=some r) (k:f ()=some r → φ):p ∧ φ := by
 refine Qah h fun x hx hf=>?_
 unfold need at hx
 split at hx
 ·exact⟨by assumption,k hf⟩
 ·cases hx
def cutL {α : Type} (l:List α) (lo hi:Int):Option (List α):=if 0≤lo∧lo≤hi∧hi≤l.length then some ((l.take hi.toNat).drop lo.toNat) else none
def appL {α : Type} (bytes:Nat) (a b:List α):Option (List α):=if(a.length+b.length)*bytes≤140737488355328∧a.length+b.length≤9223372036854775807 then some (a++b) else none
theorem view {d d' : D} {l live:List Nat} {K:D→List Nat→Prop} (h:LeD d d') (hl:live=l) (k:K d' live):∃ d' live,LeD d d' ∧ live=l∧K d' live:=⟨d', live,h,hl,k⟩
theorem vrfl {d:D} {l:List Nat} {K:D→List Nat→Prop} (k:K d l):∃ d' live,LeD d d' ∧ live=l∧K d' live:=⟨d,l,.refl d,rfl,k⟩
theorem lenMap {α : Type} (l:List α) (c : α → List V):LeD (.p (.v (.int .i64 (l.map c).length))) (.p (.v (.int .i64 l.length))) :=.eq (by rw[List.length_map])
theorem cutStr {l m:List UInt8} {lo hi:Int} (h:cutL l lo hi=some m):cutOk (some lo) (some hi) l.length∧(l.take hi.toNat).drop lo.toNat=m:=by
 unfold cutL at h
 split at h
 ·rename_i hc
  cases h
  exact⟨⟨hc.1,hc.2.1,hc.2.2⟩,rfl⟩
 ·cases h
theorem appMap {α : Type} {bytes:Nat} {a b o:List α} {c : α → List V} {fs:List (List V)} {sz:Nat} (h:appL bytes a b=some o) (hf:LeLL fs (b.map c)) (hs:∀ x,(c x).length=sz) :
  ((∀ x ∈ fs,x.length=sz)∧((a.map c).length+fs.length)*bytes≤140737488355328∧(a.map c).length+fs.length≤9223372036854775807)∧LeLL (a.map c++fs) (o.map c)∧(a.map c++fs).length=o.length∧∀ x ∈ a.map c,x.length=sz:=by
 unfold appL at h
 split at h
 ·rename_i hc
  cases h
  have hl:fs.length=b.length:=by rw[hf.1,List.length_map]
  refine⟨⟨fun x hx=>?_,by rw[List.length_map,hl]; exact hc.1,by rw[List.length_map,hl]; exact hc.2⟩,by rw[List.map_append]; exact .app (.refl _) hf,by simp[hl],fun x hx=>?_⟩
  ·obtain⟨i,hi⟩:=List.getElem?_of_mem hx
   obtain⟨y,hy⟩:=getLen hf.1.symm hi
   rw[(hf.2 i x y hi hy).1]
   obtain⟨z,-,rfl⟩:=List.mem_map.1 (List.mem_of_getElem? hy)
   exact hs z
  ·obtain⟨z,-,rfl⟩:=List.mem_map.1 hx
   exact hs z
 ·cases h
theorem Qhn {R:Type} {l:List UInt8} (lo hi:Option Int) {f:List UInt8→Option R} {r:R} {lv:List Nat} {K:D→List Nat→Prop} (h:(cutL l (lo.getD 0) (hi.getD l.length)>>=f)=some r)
  (k:∀ m,cutL l (lo.getD 0) (hi.getD l.length)=some m→f m=some r→K (.p (.v (strOf m))) lv) :
  cutOk lo hi l.length∧∃ d' live,LeD (.p (.v (strOf ((l.take (hi.getD l.length).toNat).drop (lo.getD 0).toNat)))) d' ∧ live=lv∧K d' live:=by
 refine Qah h fun m hm hf=>?_
 obtain⟨⟨h1,h2,h3⟩,h4⟩:=cutStr hm
 exact⟨⟨h1,h2,h3⟩,_,_,.eq (by rw[h4]),rfl,k m hm hf⟩
theorem Qrc {α R:Type} {bytes:Nat} {a b:List α} {c : α → List V} {fs:List (List V)} {sz tk e:Nat} {f:List α → Option R} {r:R} {lv:List Nat} {K:D→List Nat→Prop} (h:(appL bytes a b>>=f)=some r) (hf:LeLL fs (b.map c)) (hs:∀ x,(c x).length=sz)
  (hl:lv[tk]? = some (a.map c).length) (k:∀ o,appL bytes a b=some o→f o=some r→K (.own tk e sz (o.map c)) (lv.set tk (o.map c).length)) :
  lv[tk]? = some (a.map c).length∧((∀ x ∈ fs,x.length=sz)∧((a.map c).length+fs.length)*bytes≤140737488355328∧(a.map c).length+fs.length≤9223372036854775807) ∧
   ∃ d' live,LeD (.own tk e sz (a.map c++fs)) d' ∧ live=lv.set tk (a.map c++fs).length∧K d' live:=by
 refine Qah h fun o ho hk=>?_
 obtain⟨h1,h2,h3,-⟩:=appMap ho hf hs
 exact⟨hl,h1,_,_,.own h2,by rw[h2.1],k o ho hk⟩
theorem LeL.ceq {xs ys zs:List V} (h:ys=zs) (k:LeL xs zs):LeL xs ys:=h ▸ k
end
theorem PCall.weak {f:FuncId} {xs ys:List V} {r:D} (h:PCall P f ys r) (k:LeL xs ys):PCall P f xs r :=
 ⟨h.fn,fun C w us hgl hl hrel=>h.out C w us hgl (by rw[hl]; exact k.1) fun j y u hy hu=>by
  obtain⟨x,hx⟩:=getLen k.1 hy
  exact(hrel j x u hx hu).le (k.2 j x y hx hy)⟩
theorem PCall.to {f:FuncId} {xs:List V} {r r' : D} (h:PCall P f xs r) (k:LeD r r'):PCall P f xs r' :=
 ⟨h.fn,fun C w us hgl hl hrel=>(h.out C w us hgl hl hrel).mono fun e w' ⟨u,he,hd,hb⟩=>⟨u,he,hd.le k,hb⟩⟩
theorem Qkr {f:FuncId} {fn:Func} {c:Code} {us:Array Value} {G:Gh} {w:World} {B:Nat×Nat} {Q:Exit→St→Prop} {σ0:St} {R:Ending→World→Prop} (hf:P.funcs[f]? = some fn) (hb:fn.body=some c) (h:T B P fn.ntmps c Q σ0)
  (hR:Rel fn.ntmps G σ0 { tmps:=us++Array.replicate (fn.ntmps-us.size) undef,defers:=[] } w)
  (hQ:∀ e G' σ' a' w', Ex B G w G' w' → Rel fn.ntmps G' σ' a' w' → Q e σ' → (e = .normal∨e = .ret)∧∃ v,(results fn a'.tmps).run P w' = .ok v w' ∧ R (.returned v) w'):Calls P f us w R:=by
 refine callsIn_wide.1 (callsIn_of_wp_marks (F:=Fence.wide) (n:=0) hf hb trivial (wpIn_mono (h.out none ⟨w.heap.size,[]⟩ G _ w hR (.none rfl)) ?_))
 rintro e a' w' ⟨G', σ', hE,hR', hF', hq⟩
 have key:∀ (Ds:List Nat) (w' : World),Ds.Nodup→Ex B G w G' w' → Rel fn.ntmps G' σ' a' w' → (∀ b ∈ Ds,w.heap.size≤b∧w'.heap[b]? = some (.deferred (some []))∧b ∉ G'.name∧∀ T ∈ G'.tok,¬ T.has b)→LeavesInM Fence.wide 0 P fn a'.tmps R (Ds.map markOf) .returning w' := by
  intro Ds
  induction Ds with
  | nil=>exact fun w' _ hE hR' _=>(hQ e G' σ' a' w' hE hR' hq).2
  | cons b Ds ih =>
   intro w' hnd hE hR' hD
   obtain⟨d1,d2,d3,d4⟩:=hD b (by simp)
   have hnb:¬ G'.has b:=fun hh=>hh.elim d3 fun⟨T,hT,ht⟩=>d4 T hT ht
   have hk:Kept G'.has G'.com w' (w'.putObj b (.deferred none)):=Qey _ d2 (Qlc d2) hnb
   refine⟨by simp,.inl ⟨b,_,rfl,run_takeDeferred d2,ih _ (List.nodup_cons.1 hnd).2 (hE.kept hk fun i hi=>World.putObj_heap_other (by omega)) (hR'.kept hk) fun i hi=>?_⟩⟩
   obtain⟨k1,k2,k3⟩:=hD i (by simp[hi])
   refine⟨k1,?_,k3⟩
   rw[World.putObj_heap_other (fun(e:i=b)=>(List.nodup_cons.1 hnd).1 (e ▸ hi))]
   exact k2
 obtain⟨Ds,m1,m2,m3⟩:=hF'.marks
 have hl:=key Ds w' m2 hE hR' m3
 rw[List.append_nil] at m1
 rw[← m1] at hl
 rcases (hQ e G' σ' a' w' hE hR' hq).1 with rfl | rfl
 ·exact hl
 ·exact hl
theorem PCall.ofB (hm:P.follows .mixedOrders=true) (hT:TblOk P tb) {f:FuncId} {fn:Func} {c:Code} (lv:List (Nat×List Nat)) (hf:P.funcs[f]? = some fn) (hb:fn.body=some c) (hn:isFn P f=true) {args:List V} (hN:args.length≤fn.ntmps) {r:D}
  (h:bwp (0,0) P tb fn.ntmps lv c (retQ tb fn.results.toList fun d=>LeD d r) ⟨args0 args 0,⟨[],[]⟩⟩):PCall P f args r:=by
 refine⟨hn,fun C w us hgl hl hrel=>?_⟩
 have hR:Rel fn.ntmps ⟨fun b o=>C b o∧b<w.heap.size,[],[]⟩ ⟨args0 args 0,⟨[],[]⟩⟩ { tmps:=us++Array.replicate (fn.ntmps-us.size) undef,defers:=[] } w:=by
  refine⟨⟨fun b o h=>⟨h.2,by simp,by simp⟩,rfl,by simp,fun i b cs h=>by simp at h,rfl,fun t T b h=>by simp at h,fun T h=>by simp at h,hgl.mono fun b o u h1 h2=>⟨⟨h1,cellLt h2⟩,h2⟩⟩,fun t d hd=>?_,by simp; omega⟩
  obtain⟨x,h1,h2,rfl⟩:=Qkn args 0 t d hd
  have hlt:t<args.length:=(List.getElem?_eq_some_iff.1 h1).1
  have hlt2:t<us.size:=by omega
  refine⟨by simp; omega,.p x _ (DRel.lt ?_)⟩
  refine hrel t x _ h1 ?_
  simp only[Array.getD_eq_getD_getElem?,Array.getElem?_append_left hlt2,Array.getElem?_eq_getElem hlt2,Option.getD_some]
 refine Qkr hf hb (Qan hm hT c _ _ h) hR fun e G' σ' a' w' hE hR' hq=>?_
 have key:∀ (hq:resAll tb σ' fn.results.toList fun ds=>match retD ds with | some d=>LeD d r | none=>False),∃ v,(results fn a'.tmps).run P w' = .ok v w' ∧
   ∃ u,Ending.returned v = .returned u∧DRel ⟨fun b o=>C b o∨w.heap.size≤b,[],[]⟩ w' r u∧Below w.heap.size w w' := fun hq=>by
  obtain⟨ds,us', h1,h2,h3,h4⟩:=Qe7 hT hR' _ _ hq
  split at h4
  ·rename_i d hd
   obtain⟨k1,k2⟩:=Qq3 h2 h3 hd
   refine⟨if h:us'.toArray.size=1 then us'.toArray[0] else .tuple us'.toArray,?_,_,rfl,DRel.le ?_ h4,⟨hE.ext.os,hE.ext.tape,hE.ext.output,hE.ext.size,fun k hk=>hE.ext.old k hk (by simp) (by simp)⟩⟩
   ·unfold results
    rw[Sem.run_bind,Array.mapM_eq_mapM_toList,Sem.run_map]
    erw [h1]
    rfl
   ·have hcom:∀ b o,G'.com b o→C b o∨w.heap.size≤b:=fun b o hc=>by
     rcases hE.ext.new b o hc with h | h | h | ⟨T,h,_⟩
     ·exact .inl h.1
     ·exact .inr h
     ·simp at h
     ·simp at h
    rcases k2 with ⟨x,rfl⟩ | ⟨xs,rfl⟩
    ·generalize (if h:us'.toArray.size=1 then us'.toArray[0] else Value.tuple us'.toArray)=q at k1
     cases k1 with
     | p _ _ k1=>exact .p _ _ (k1.mono (Nat.le_refl _) fun b o u h1 h2=>⟨hcom b o h1,h2⟩)
    ·generalize (if h:us'.toArray.size=1 then us'.toArray[0] else Value.tuple us'.toArray)=q at k1
     cases k1 with
     | tup _ vs l1 l2 =>
      refine .tup _ _ l1 (fun j c u hc hu=>?_)
      have:=l2 j c u hc hu
      rw[List.getElem?_map] at hc
      obtain⟨x,-,rfl⟩:=Option.map_eq_some_iff.1 hc
      cases this with
      | p _ _ k1=>exact .p _ _ (k1.mono (Nat.le_refl _) fun b o u h1 h2=>⟨hcom b o h1,h2⟩)
  ·exact h4.elim
 cases e with
 | normal=>exact⟨.inl rfl,key hq⟩
 | ret=>exact⟨.inr rfl,key hq⟩
 | _=>exact hq.elim
theorem Qax {α R:Type} {x:Option α} {f : α → Option R} {r:R} {g:FuncId} (xs:List V) (t : α → D) {gn:Bool} {s:S} {K:D→S→Prop} (h:(x>>=f)=some r) (hok:∀ y,x=some y→PCall P g xs (t y)) (k:∀ y,x=some y→f y=some r→K (t y) s) :
  ∃ r s', CallC gn P g (xs.map .p) s r s' ∧ K r s' := Qah h fun y hy hf=>⟨t y,s,(hok y hy).c,k y hy hf⟩
theorem Q0c {α R:Type} {x:Option α} {f : α → Option R} {r:R} {g:FuncId} (xs:List V) (t : α → D) {base:Nat} {s:S} {K:D→S→Prop} (h:(x>>=f)=some r) (hok:∀ y,x=some y→PCall P g xs (t y)) (k:∀ y,x=some y→f y=some r→K (t y) s) :
  ∃ r s', CallD base P g (xs.map .p) s r s' ∧ K r s' := Qah h fun y hy hf=>⟨t y,s,(hok y hy).d,k y hy hf⟩
theorem Qar {α R:Type} {x:Option α} {f : α → Option R} {r:R} {g:FuncId} {args:List D} {s:S} (t : α → D) (s' : α → S) {K:D→S→Prop} (h:(x>>=f)=some r) (hok:∀ y,x=some y→CallOK P g args s (t y) (s' y)) (k:∀ y,x=some y→f y=some r→K (t y) (s' y)) :
  ∃ r s', CallC true P g args s r s' ∧ K r s' := Qah h fun y hy hf=>⟨t y,s' y,(hok y hy).g,k y hy hf⟩
theorem Qvx {α R:Type} {x:Option α} {f : α → Option R} {r:R} {g:FuncId} {args:List D} {s:S} {base:Nat} (t : α → D) (s' : α → S) {K:D→S→Prop} (h:(x>>=f)=some r) (hok:∀ y,x=some y→CallG base P g args s (t y) (s' y)) (k:∀ y,x=some y→f y=some r→K (t y) (s' y)) :
  ∃ r s', CallG base P g args s r s' ∧ K r s' := Qah h fun y hy hf=>⟨t y,s' y,hok y hy,k y hy hf⟩
def selOk (m n:Nat) (J:List Nat):Bool:=nodupB J&&J.all (Nat.blt · n)&&(J.take m==List.range m)
theorem Qok {n i:Nat} (h:i<n):(List.range n)[i]? = some i:=List.getElem?_range h
theorem Qs7 {α : Type} (A B:List α) (d : α):(List.range A.length).map ((A++B).getD · d)=A:=by
 apply List.ext_getElem?
 intro i
 rw[List.getElem?_map]
 by_cases h:i<A.length
 ·rw[Qok h]
  simp[List.getD,List.getElem?_append_left h,h]
 ·rw[List.getElem?_eq_none (by simpa using Nat.le_of_not_lt h),List.getElem?_eq_none (Nat.le_of_not_lt h)]; rfl
theorem Qyg {G G' : Gh} {w w' : World} {n m:Nat} {J:List Nat} (hE:Ex (n,m) G w G' w') (hn:G.name.length=n) (hm:G.tok.length=m) (hn' : n≤G'.name.length) (hJ:∀ j ∈ J,j<G'.tok.length) (hid:J.take m=List.range m):Stp G w (G'.sub (List.range n) J) w' := by
 have hI:∀ i ∈ List.range n,i<G'.name.length:=fun i hi=>by have:=List.mem_range.1 hi; omega
 refine⟨⟨hE.ext.os,hE.ext.tape,hE.ext.output,hE.ext.size,hE.ext.com,hE.ext.old,hE.ext.new,fun b hb=>?_,hE.ext.mono,hE.ext.shp⟩,fun nm b hb=>?_,fun t T ht=>?_⟩
 ·rcases hb with hb | ⟨T,hT,hb⟩
  ·exact hE.ext.mine b (.inl (Qex hI hb))
  ·exact hE.ext.mine b (.inr ⟨T,Qex hJ hT,hb⟩)
 ·have hl:nm<n:=by rw[← hn]; exact(List.getElem?_eq_some_iff.1 hb).1
  rw[Qiu (Qok hl) (by omega)]
  exact hE.name nm b hl hb
 ·have hl:t<m:=by rw[← hm]; exact(List.getElem?_eq_some_iff.1 ht).1
  obtain⟨T', h1,h2⟩:=hE.tok t T hl ht
  have hJt:J[t]? = some t:=by
   have:=congrArg (·[t]?) hid
   simp only[List.getElem?_take,if_pos hl,Qok hl] at this
   exact this
  exact⟨T', by rw[Qjs hJt (hJ t (List.mem_of_getElem? hJt))]; exact h1,h2⟩
structure EndR (n m:Nat) (s' : S) (r d:D) (t:S):Prop where
 ex:∃ J,selOk m t.live.length J=true∧LeD d (r.ren (List.range n) J)∧LeH (t.heap.take n) (s'.heap.map fun cs=>cs.map (D.ren (List.range n) J))∧J.map (t.live.getD · 0)=s'.live
theorem CallOK.ofT (hT:TblOk P tb) {f:FuncId} {fn:Func} {c:Code} (hf:P.funcs[f]? = some fn) (hb:fn.body=some c) (hn:isFn P f=true) {args:List D} (hN:args.length≤fn.ntmps) {s s' : S} {r:D}
  (hr:r.lt s.heap.length s'.live.length=true) (hs:s'.heap.all (fun cs=>cs.all (D.lt s.heap.length s'.live.length))=true)
  (hn' : s'.heap.length=s.heap.length)
  (h:T (s.heap.length,s.live.length) P fn.ntmps c (fun e σ => ∃ τ,Le (s.heap.length,s.live.length) fn.ntmps σ τ ∧ retR tb fn.results.toList (EndR s.heap.length s.live.length s' r) e τ) ⟨argsD args 0,s⟩):CallOK P f args s r s' := by
 refine⟨hn,fun G w us hI hl hrel=>?_⟩
 have hR:Rel fn.ntmps G ⟨argsD args 0,s⟩ { tmps:=us++Array.replicate (fn.ntmps-us.size) undef,defers:=[] } w:=by
  refine⟨hI,fun t d hd=>?_,by simp; omega⟩
  obtain⟨h1,h2⟩:=Qko args 0 t d hd
  have hlt:t<args.length:=(List.getElem?_eq_some_iff.1 h1).1
  have hlt2:t<us.size:=by omega
  refine⟨by simp; omega,?_⟩
  refine hrel t d _ h1 ?_
  simp only[Array.getD_eq_getD_getElem?,Array.getElem?_append_left hlt2,Array.getElem?_eq_getElem hlt2,Option.getD_some]
 have hln:G.name.length=s.heap.length:=hI.names
 have hlt:G.tok.length=s.live.length:=by rw[← hI.live]; simp
 refine Qkr hf hb (T_up h fun e σ' hq=>hq) hR fun e G' σ' a' w' hE hR' hq=>?_
 have key:∀ (hq:resAll tb σ' fn.results.toList fun ds=>EndR s.heap.length s.live.length s' r (retE ds) σ'.s),∃ v,(results fn a'.tmps).run P w' = .ok v w' ∧
   ∃ u G', Ending.returned v = .returned u∧Stp G w G' w' ∧ Inv G' s' w' ∧ DRel G' w' r u:=fun hq=>by
  obtain⟨ds,us', h1,h2,h3,⟨J,hJ0,h4,h5,h6⟩⟩:=Qe7 hT hR' _ _ hq
  unfold selOk at hJ0
  simp only[Bool.and_eq_true] at hJ0
  obtain⟨⟨hJ1,hJ2⟩,hJ3⟩:=hJ0
  have nJ:=Qcr J hJ1
  have bJ:=Qhm hJ2
  have lT:G'.tok.length = σ'.s.live.length:=by have:=congrArg List.length hR'.inv.live; simpa using this
  have hd:=(Qz3 h2 h3).le h4
  have h7:=LeH.app h5 (LeH.refl (σ'.s.heap.drop s.heap.length))
  rw[List.take_append_drop] at h7
  have hinv1:=Inv.le (h := σ'.s.heap) (live := σ'.s.live) hR'.inv h7
  have hlen:(s'.heap.map fun cs=>cs.map (D.ren (List.range s.heap.length) J)).length=s.heap.length:=by rw[List.length_map]; exact hn'
  have hlJ:J.length=s'.live.length:=by rw[← h6]; simp
  have hnl:s.heap.length≤G'.name.length:=by rw[hinv1.names]; simp only[List.length_append,hlen]; omega
  have hinv2:Inv (G'.sub (List.range s.heap.length) J) ⟨s'.heap,s'.live⟩ w' := hinv1.sub (I:=List.range s.heap.length) (J:=J) List.nodup_range nJ (fun i hi=>by have:=List.mem_range.1 hi; simp only[List.length_append,hlen]; omega) bJ (by
   have:=Qs7 (s'.heap.map fun cs=>cs.map (D.ren (List.range s.heap.length) J)) (σ'.s.heap.drop s.heap.length) []
   rw[hlen] at this
   exact this) h6 (by rw[List.length_range,hlJ]; exact hs)
  have hst:Stp G w (G'.sub (List.range s.heap.length) J) w' := Qyg hE hln hlt hnl (fun j hj=>by rw[lT]; exact bJ j hj) (by simpa using hJ3)
  refine⟨if h:us'.toArray.size=1 then us'.toArray[0] else .tuple us'.toArray,?_,_,_,rfl,hst,hinv2,Qq4 (fun i hi=>by have:=List.mem_range.1 hi; omega) (fun j hj=>by rw[lT]; exact bJ j hj) (by rw[List.length_range,hlJ]; exact hr) hd⟩
  unfold results
  rw[Sem.run_bind,Array.mapM_eq_mapM_toList,Sem.run_map]
  erw [h1]
  rfl
 cases e with
 | normal=>exact⟨.inl rfl,key hq⟩
 | ret=>exact⟨.inr rfl,key hq⟩
 | _=>exact hq.elim
theorem CallOK.ofB (hm:P.follows .mixedOrders=true) (hT:TblOk P tb) {f:FuncId} {fn:Func} {c:Code} (lv:List (Nat×List Nat)) (hf:P.funcs[f]? = some fn) (hb:fn.body=some c) (hn:isFn P f=true) {args:List D} (hN:args.length≤fn.ntmps) {s s' : S} {r:D}
  (hr:r.lt s.heap.length s'.live.length=true) (hs:s'.heap.all (fun cs=>cs.all (D.lt s.heap.length s'.live.length))=true)
  (hn' : s'.heap.length=s.heap.length)
  (h:bwp (s.heap.length,s.live.length) P tb fn.ntmps lv c (fun e σ => ∃ τ,Le (s.heap.length,s.live.length) fn.ntmps σ τ ∧ retR tb fn.results.toList (EndR s.heap.length s.live.length s' r) e τ) ⟨argsD args 0,s⟩):CallOK P f args s r s' :=
 CallOK.ofT hT hf hb hn hN hr hs hn' (Qan hm hT c _ _ h)
theorem Qb4 {α : Type} {x y : α} {d:D} {u:S} {n m:Nat} {t : α → D} {ss : α → S} (h:some x=some y) (k:EndR n m (ss x) (t x) d u):EndR n m (ss y) (t y) d u:=by cases h; exact k
theorem Qbw {α : Type} {x y : α} {d:D} {t : α → D} (h:some x=some y) (k:LeD d (t x)):LeD d (t y):=by cases h; exact k
end
section
variable {P:Program} {tb:Tbl}
def pubC (heap:List (List D)):D→Option V
 | .ptr nm off=>match heap[nm]? with
  | some cs=>(unps cs).map fun vs =>.ep (vs.drop off)
  | none=>none
 | d=>unp d
def pubL (heap:List (List D)):List D→Option (List V)
 | []=>some []
 | d::r=>match pubC heap d,pubL heap r with
  | some x,some y=>some (x::y)
  | _,_=>none
def pubD (heap:List (List D)):D→Option D
 | .fn f [] cap=>(pubL heap cap).map fun vs =>.fn f [] (vs.map .p)
 | .agg cs=>(pubL heap cs).map fun vs =>.p (.agg vs)
 | d=>(pubC heap d).map .p
def pubR (heap:List (List D)):List D→Option D
 | [d]=>pubD heap d
 | ds=>(pubL heap ds).map fun xs =>.tup (xs.map .p)
theorem Qqe:∀ {cs:List D} {vs:List V},unps cs=some vs→noMap cs=true
 | [],_,_=>rfl
 | d::r,vs,h=>by
  unfold unps at h
  split at h
  ·rename_i x y hx hy
   have ih:=Qqe hy
   cases d with
   | p x=>exact ih
   | own t e s es=>exact ih
   | _=>cases hx
  ·cases h
theorem Qnu {G:Gh} {s:S} {w:World} (hI:Inv G s w) {d:D} {x:V} {u:Value} (h:DRel G w d u) (hd:pubC s.heap d=some x):VRel (fun b o=>G.com b o∨b ∈ G.name) w x u:=by
 have up:∀ {y:V} {v:Value},VRel G.com w y v→VRel (fun b o=>G.com b o∨b ∈ G.name) w y v:=fun h=>h.mono (Nat.le_refl _) fun b o u h1 h2=>⟨.inl h1,h2⟩
 unfold pubC at hd
 split at hd
 ·rename_i nm off
  cases h with
  | ptr _ _ b hb =>
   split at hd
   ·rename_i cs hcs
    obtain⟨vs,hv,rfl⟩:=Option.map_eq_some_iff.1 hd
    obtain⟨us,ty,h1,h2,h3⟩:=(hI.var nm b cs hb hcs).row (Qqe hv)
    obtain⟨l1,l2⟩:=Qf7 (G:=G) (w:=w) cs vs hv
    refine .ep _ b off (fun k=>us.getD (off+k) undef) (fun k c hk=>?_) (fun k c hk=>?_)
    all_goals
     rw[List.getElem?_drop] at hk
     obtain⟨d,hd,hx⟩:=l2 _ c hk
     have hlt:off+k<us.size:=by rw[h2]; exact(List.getElem?_eq_some_iff.1 hd).1
     obtain⟨g1,g2⟩:=h3 _ d us[off+k] hd (Array.getElem?_eq_getElem hlt)
     have hg:us.getD (off+k) undef=us[off+k]:=by simp[Array.getD_eq_getD_getElem?,hlt]
    ·refine⟨.inr (List.mem_of_getElem? hb),?_,by rw[hg]; exact g1⟩
     rw[cell_of_row w b _ us ty (0,0) h1,hg]
     exact Array.getElem?_eq_getElem hlt
    ·show VRel _ w c (us.getD (off+k) undef)
     rw[hg]; exact up (Qew g2 hx)
   ·cases hd
 ·exact up (Qew h hd)
theorem Qnv {G:Gh} {s:S} {w:World} (hI:Inv G s w):∀ (ds:List D) (xs:List V),pubL s.heap ds=some xs→xs.length=ds.length∧∀ (j:Nat) x,xs[j]? = some x→∃ d,ds[j]? = some d∧pubC s.heap d=some x
 | [],xs,h=>by simp[pubL] at h; subst h; exact⟨rfl,fun j x hx=>by simp at hx⟩
 | d::r,xs,h=>by
  unfold pubL at h
  split at h
  ·rename_i x y hx hy
   cases h
   obtain⟨h1,h2⟩:=Qnv hI r y hy
   refine⟨by simp[h1],fun j z hz=>?_⟩
   cases j with
   | zero=>simp at hz; subst hz; exact⟨d,rfl,hx⟩
   | succ j=>exact h2 j z hz
  ·cases h
theorem Q0d {G:Gh} {s:S} {w:World} (hI:Inv G s w) {d d' : D} {u:Value} (h:DRel G w d u) (hd:pubD s.heap d=some d'):DRel ⟨fun b o=>G.com b o∨b ∈ G.name,[],[]⟩ w d' u:=by
 unfold pubD at hd
 split at hd
 ·rename_i f cap
  obtain⟨vs,hv,rfl⟩:=Option.map_eq_some_iff.1 hd
  obtain⟨l1,l2⟩:=Qnv hI cap vs hv
  cases h with
  | fn _ _ _ us ws k1 k2 k3 k4 =>
   refine .fn f [] _ us ws k1 (by simp[l1,k2]) (fun j c u hc=>by simp at hc) (fun j c u hc hu=>?_)
   rw[List.getElem?_map] at hc
   obtain⟨x,hx,rfl⟩:=Option.map_eq_some_iff.1 hc
   obtain⟨d,hd,hp⟩:=l2 j x hx
   exact .p _ _ (Qnu hI (k4 j d u hd hu) hp)
 ·rename_i cs
  obtain⟨vs,hv,rfl⟩:=Option.map_eq_some_iff.1 hd
  obtain⟨l1,l2⟩:=Qnv hI cs vs hv
  cases h with
  | agg _ us k1 k2 k3 =>
   refine .p _ _ (.agg _ us (by rw[l1,k1]) (fun j c u hc hu=>?_) (fun j c u hc hu=>?_))
   ·obtain⟨d,hd,-⟩:=l2 j c hc
    exact k2 j d u hd hu
   ·obtain⟨d,hd,hp⟩:=l2 j c hc
    exact Qnu hI (k3 j d u hd hu) hp
 ·obtain⟨x,hx,rfl⟩:=Option.map_eq_some_iff.1 hd
  exact .p _ _ (Qnu hI h hx)
theorem Q0e {G:Gh} {s:S} {w:World} (hI:Inv G s w) {ds:List D} {us:List Value} (hl:us.length=ds.length) (h:∀ (j:Nat) d u,ds[j]? = some d→us[j]? = some u→DRel G w d u) {r:D} (hr:pubR s.heap ds=some r) :
  DRel ⟨fun b o=>G.com b o∨b ∈ G.name,[],[]⟩ w r (if h:us.toArray.size=1 then us.toArray[0] else .tuple us.toArray):=by
 unfold pubR at hr
 split at hr
 ·rename_i d
  match us,hl with
  | [u],_=>exact Q0d hI (h 0 d u rfl rfl) hr
 ·rename_i hne
  obtain⟨xs,hx,rfl⟩:=Option.map_eq_some_iff.1 hr
  obtain⟨u1,u2⟩:=Qnv hI ds xs hx
  have hsz:¬ us.toArray.size=1:=by
   simp only[List.size_toArray,hl]
   intro h1
   match ds,h1 with
   | [d],_=>exact hne d rfl
  rw[dif_neg hsz]
  refine .tup _ _ (by simp[u1,hl]) (fun j c u hc hu=>?_)
  rw[List.getElem?_map] at hc
  obtain⟨x,hx', rfl⟩:=Option.map_eq_some_iff.1 hc
  obtain⟨d,hd,hxd⟩:=u2 j x hx'
  exact .p _ _ (Qnu hI (h j d u hd (by simpa using hu)) hxd)
def retM (tb:Tbl) (rs:List ResultVar) (R:D→Prop) (e:Exit) (σ : St):Prop :=
 match e with
 | .normal=>resAll tb σ rs fun ds=>match pubR σ.s.heap ds with | some d=>R d | none=>False
 | .ret=>resAll tb σ rs fun ds=>match pubR σ.s.heap ds with | some d=>R d | none=>False
 | _=>False
theorem PCall.ofM (hm:P.follows .mixedOrders=true) (hT:TblOk P tb) {f:FuncId} {fn:Func} {c:Code} (lv:List (Nat×List Nat)) (hf:P.funcs[f]? = some fn) (hb:fn.body=some c) (hn:isFn P f=true) {args:List V} (hN:args.length≤fn.ntmps) {r:D}
  (h:bwp (0,0) P tb fn.ntmps lv c (retM tb fn.results.toList fun d=>LeD d r) ⟨args0 args 0,⟨[],[]⟩⟩):PCall P f args r:=by
 refine⟨hn,fun C w us hgl hl hrel=>?_⟩
 have hR:Rel fn.ntmps ⟨fun b o=>C b o∧b<w.heap.size,[],[]⟩ ⟨args0 args 0,⟨[],[]⟩⟩ { tmps:=us++Array.replicate (fn.ntmps-us.size) undef,defers:=[] } w:=by
  refine⟨⟨fun b o h=>⟨h.2,by simp,by simp⟩,rfl,by simp,fun i b cs h=>by simp at h,rfl,fun t T b h=>by simp at h,fun T h=>by simp at h,hgl.mono fun b o u h1 h2=>⟨⟨h1,cellLt h2⟩,h2⟩⟩,fun t d hd=>?_,by simp; omega⟩
  obtain⟨x,h1,h2,rfl⟩:=Qkn args 0 t d hd
  have hlt:t<args.length:=(List.getElem?_eq_some_iff.1 h1).1
  have hlt2:t<us.size:=by omega
  refine⟨by simp; omega,.p x _ (DRel.lt ?_)⟩
  refine hrel t x _ h1 ?_
  simp only[Array.getD_eq_getD_getElem?,Array.getElem?_append_left hlt2,Array.getElem?_eq_getElem hlt2,Option.getD_some]
 refine Qkr hf hb (Qan hm hT c _ _ h) hR fun e G' σ' a' w' hE hR' hq=>?_
 have key:∀ (hq:resAll tb σ' fn.results.toList fun ds=>match pubR σ'.s.heap ds with | some d=>LeD d r | none=>False),∃ v,(results fn a'.tmps).run P w' = .ok v w' ∧
   ∃ u,Ending.returned v = .returned u∧DRel ⟨fun b o=>C b o∨w.heap.size≤b,[],[]⟩ w' r u∧Below w.heap.size w w' := fun hq=>by
  obtain⟨ds,us', h1,h2,h3,h4⟩:=Qe7 hT hR' _ _ hq
  split at h4
  ·rename_i d hd
   refine⟨if h:us'.toArray.size=1 then us'.toArray[0] else .tuple us'.toArray,?_,_,rfl,DRel.le (DRel.weak (Q0e hR'.inv h2 h3 hd) fun b o hc=>?_) h4,⟨hE.ext.os,hE.ext.tape,hE.ext.output,hE.ext.size,fun k hk=>hE.ext.old k hk (by simp) (by simp)⟩⟩
   ·unfold results
    rw[Sem.run_bind,Array.mapM_eq_mapM_toList,Sem.run_map]
    erw [h1]
    rfl
   ·rcases hc with hc | hc
    ·rcases hE.ext.new b o hc with h | h | h | ⟨T,h,_⟩
     ·exact .inl h.1
     ·exact .inr h
     ·simp at h
     ·simp at h
    ·rcases hE.ext.mine b (.inl hc) with h | h | ⟨T,h,_⟩
     ·exact .inr h
     ·simp at h
     ·simp at h
  ·exact h4.elim
 cases e with
 | normal=>exact⟨.inl rfl,key hq⟩
 | ret=>exact⟨.inr rfl,key hq⟩
 | _=>exact hq.elim
def IEnd (N:Nat) (xs:List (List V)) (e:Exit) (σ : St):Prop :=
 ((e = .normal∨e = .ret)∧Le (0,1) N σ ⟨[],⟨[],[xs.length]⟩⟩)∨((e = .normal∨e = .ret)∧Le (0,1) N σ ⟨[],⟨[],[xs.length+1]⟩⟩)
theorem IterOK.ofB (hm:P.follows .mixedOrders=true) (hT:TblOk P tb) {f:FuncId} {fn:Func} {c:Code} (lv:List (Nat×List Nat)) (hf:P.funcs[f]? = some fn) (hb:fn.body=some c) (hn:isFn P f=true) {cap:List V} {xs:List (List V)} (hN:cap.length+1≤fn.ntmps)
  (hres:fn.results.toList=[]) (h:bwp (0,1) P tb fn.ntmps lv c (fun e σ => ∃ τ,Le (0,1) fn.ntmps σ τ ∧ IEnd fn.ntmps xs e τ) ⟨argsD (.yld P 0 xs::cap.map .p) 0,⟨[],[0]⟩⟩):IterOK P f cap xs:=by
 refine⟨hn,fun G w us hI hl hrel=>?_⟩
 have hlen:(D.yld P 0 xs::cap.map .p).length=cap.length+1:=by simp
 have hR:Rel fn.ntmps G ⟨argsD (.yld P 0 xs::cap.map .p) 0,⟨[],[0]⟩⟩ { tmps:=us++Array.replicate (fn.ntmps-us.size) undef,defers:=[] } w:=by
  refine⟨hI,fun t d hd=>?_,by simp; omega⟩
  obtain⟨h1,h2⟩:=Qko _ 0 t d hd
  have hlt:t<(D.yld P 0 xs::cap.map .p).length:=(List.getElem?_eq_some_iff.1 h1).1
  have hlt2:t<us.size:=by omega
  refine⟨by simp; omega,?_⟩
  refine hrel t d _ h1 ?_
  simp only[Array.getD_eq_getD_getElem?,Array.getElem?_append_left hlt2,Array.getElem?_eq_getElem hlt2,Option.getD_some]
 refine Qkr hf hb (T_up (Qan hm hT c _ _ h) fun e σ' hq=>hq) hR fun e G' σ' a' w' hE hR' hq=>?_
 have hnm:G.name.length≤0:=by rw[hI.names]; exact Nat.le_refl _
 have htk:G.tok.length≤1:=by have:=congrArg List.length hI.live; simp at this; omega
 have hrun:∃ v,(results fn a'.tmps).run P w' = .ok v w' ∧ ∀ G,DRel G w' (.tup []) v:=by
  have e1:fn.results = #[]:=by rw[← Array.toArray_toList (xs:=fn.results),hres]
  refine⟨.tuple #[],?_,fun G =>.tup [] #[] rfl fun j c u hc=>by simp at hc⟩
  unfold results
  rw[e1]
  simp
 obtain⟨v,hv,hvr⟩:=hrun
 rcases hq with ⟨he,hle⟩ | ⟨he,hle⟩
 ·obtain⟨G2,e2,r2⟩:=hle.out G' a' w' hR'
  exact⟨he,v,hv,v,G2,.tup [],_,rfl,(hE.trans e2).stp hnm htk,r2.inv,hvr _,.inl rfl⟩
 ·obtain⟨G2,e2,r2⟩:=hle.out G' a' w' hR'
  exact⟨he,v,hv,v,G2,.tup [],_,rfl,(hE.trans e2).stp hnm htk,r2.inv,hvr _,.inr rfl⟩
end
@[reducible] def wr (n:Int):Int:=IntKind.i64.wrap n
def nV (k:IntKind) (n:Int):V :=.v (.int k n)
def cNum (k:IntKind) (n:Int):List V:=[nV k n]
def cBool (b:Bool):List V:=[bV b]
def cStr (l:List UInt8):List V:=[sV l]
end Go.Proofs.YtagokkpnfceidaaDoor
end

section
set_option linter.unusedVariables false
namespace Go.Proofs.YtagokkpnfceidaaDoor
open Go.RowKit
theorem RelL.of_le {xs ys:List V} (h:LeL xs ys):RelL xs ys:=fun C w us hu hr=>⟨hu.trans h.1,fun j y u hy hu=>by
 obtain⟨x,hx⟩:=getLen h.1 hy
 exact(hr j x u hx hu).le (h.2 j x y hx hy)⟩
def b2s (l:List Int):Option (List UInt8):=if l.all (fun n=>decide (0≤n∧n≤255))=true then some (l.map fun n=>UInt8.ofNat n.toNat) else none
theorem Q1u {R:Type} {l:List Int} {f:List UInt8→Option R} {r:R} {lv:List Nat} {K:D→List Nat→Prop} (h:(b2s l>>=f)=some r) (k:∀ m,b2s l=some m→f m=some r→K (.p (.v (strOf m))) lv) :
  ∃ m:List UInt8,l.map (cNum .u8)=m.map byteV∧∃ d' live,LeD (.p (.v (strOf m))) d' ∧ live=lv∧K d' live:=by
 refine Qah h fun m hm hf=>?_
 have hk:=k m hm hf
 refine⟨m,?_,_,_,.refl _,rfl,hk⟩
 unfold b2s at hm
 split at hm
 ·rename_i hl
  cases hm
  rw[List.map_map]
  refine List.map_congr_left fun n hn=>?_
  have:=List.all_eq_true.1 hl n hn
  simp only[decide_eq_true_eq] at this
  obtain⟨N,rfl⟩:∃ N:Nat,n=(N:Int):=⟨n.toNat,by omega⟩
  have hN:N≤255:=by omega
  simp only[Function.comp,cNum,nV,byteV,Int.toNat_natCast,UInt8.toNat_ofNat']
  rw[Nat.mod_eq_of_lt (by omega)]
 ·cases hm
def s2b (l:List UInt8):List Int:=l.map fun x=>(x.toNat:Int)
theorem Qyh (a:List Int) (b:List UInt8):a.map (cNum .u8)++b.map byteV=(a++s2b b).map (cNum .u8):=by
 rw[List.map_append]
 unfold s2b
 rw[List.map_map]
 rfl
theorem Q0f {R:Type} {bytes:Nat} {a:List Int} {b:List UInt8} {sz tk e:Nat} {f:List Int→Option R} {r:R} {lv:List Nat} {K:D→List Nat→Prop} (h:(appL bytes a (s2b b)>>=f)=some r) (hl:lv[tk]? = some (a.map (cNum .u8)).length)
  (k:∀ o,appL bytes a (s2b b)=some o→f o=some r→K (.own tk e sz (o.map (cNum .u8))) (lv.set tk (o.map (cNum .u8)).length)) :
  lv[tk]? = some (a.map (cNum .u8)).length∧(((a.map (cNum .u8)).length+b.length)*bytes≤140737488355328∧(a.map (cNum .u8)).length+b.length≤9223372036854775807) ∧
   ∃ d' live,LeD (.own tk e sz (a.map (cNum .u8)++b.map byteV)) d' ∧ live=lv.set tk (a.map (cNum .u8)++b.map byteV).length∧K d' live:=by
 refine Qah h fun o ho hf=>?_
 have hk:=k o ho hf
 unfold appL at ho
 split at ho
 ·rename_i hc
  cases ho
  rw[Qyh,List.length_map]
  simp only[s2b,List.length_map] at hc
  exact⟨by rw[List.length_map] at hl; exact hl,hc,_,_,.refl _,rfl,hk⟩
 ·cases ho
def rgP:Code→List Nat
 | .rangeFunc _ ps _ _=>ps.toList
 | _=>[]
def rgA:Code→Code
 | .rangeFunc _ _ a _=>a
 | _ =>.skip
def rgB:Code→Code
 | .rangeFunc _ _ _ b=>b
 | _ =>.skip
section
variable {P:Program}
theorem Q0g {α R:Type} {x:Option α} {f : α → Option R} {r:R} {g:FuncId} {args:List D} {s:S} {base:Nat} (t : α → D) (s' : α → S) {K:D→S→Prop} (h:(x>>=f)=some r) (hok:∀ y,x=some y→CallF base P g args s (t y) (s' y)) (k:∀ y,x=some y→f y=some r→K (t y) (s' y)) :
  ∃ r s', CallF base P g args s r s' ∧ K r s' := Qah h fun y hy hf=>⟨t y,s' y,hok y hy,k y hy hf⟩
theorem Quj {k m N:Nat} {ps:List Nat} {asn body:Code} {env:Env} {Q:Exit→St→Prop} {α : Type} {c : α → List V} {x : α} {r:List α} {s:S}
  (h:T (k,m) P N asn (fun e σ1=>e = .normal∧T (k,m) P N body (fun e σ2=>∃ s', Le (k,m) N ⟨[],σ2.s⟩ ⟨[],s'⟩∧s'.heap.length=k∧s'.live.length=m ∧
   match e with
   | .normal=>RL k m P N ps asn body env Q (r.map c) s'
   | .ret=>Q .ret ⟨env,s'⟩
   | .exit i=>Q (.exit i) ⟨env,s'⟩
   | _=>False) σ1) ⟨putP ps (c x) env,s⟩):RL k m P N ps asn body env Q ((x::r).map c) s:=h
theorem Qyi {k m N:Nat} {ps:List Nat} {asn body:Code} {env:Env} {Q:Exit→St→Prop} {α : Type} {c : α → List V} {s:S} (h:Q .normal ⟨env,s⟩):RL k m P N ps asn body env Q (([]:List α).map c) s:=h
def Stop (B:Nat×Nat) (N:Nat) (xs:List (List V)) (σ : St):Prop:=∃ s', Le B N σ ⟨[],s'⟩∧s'.heap.length=B.1∧s'.live.length=B.2∧s'.live[0]? = some (xs.length+1)
def Qs (B:Nat×Nat) (N:Nat) (xs:List (List V)) (J:Exit→St→Prop) (e:Exit) (σ : St):Prop:=J e σ ∨ (e = .ret∧Stop B N xs σ)
theorem env0 {B:Nat×Nat} {N:Nat} {env:Env} {s:S}:Le B N ⟨env,s⟩ ⟨[],s⟩:=⟨fun G a w hR=>⟨G,.refl B G w,⟨hR.inv,fun t d h=>by simp at h,hR.size⟩⟩⟩
theorem le01 {N:Nat} {σ : St} {n:Nat} (h : σ.s.live[0]? = some n):Le (0,1) N σ ⟨[],⟨[],[n]⟩⟩:=by
 obtain⟨env,s⟩ := σ
 refine env0.trans (Le.tow 0 1 rfl .nil .nil ?_ (Nat.le_refl _) (Nat.le_refl _) rfl)
 cases hs:s.live with
 | nil=>simp[hs] at h
 | cons a l=>simp[hs] at h; simp[h]
theorem Q0h {N:Nat} {xs:List (List V)} {σ : St} (h : σ.s.live[0]? = some (xs.length+1)):Stop (0,1) N xs σ := ⟨_,le01 h,rfl,rfl,rfl⟩
theorem Q0i {N:Nat} {xs:List (List V)} {e:Exit} {σ : St} (he:e = .normal∨e = .ret) (h : σ.s.live[0]? = some (xs.length+1)):∃ τ,Le (0,1) N σ τ ∧ IEnd N xs e τ := ⟨_,le01 h,.inr ⟨he,.refl _ _ _⟩⟩
theorem Q1e {α O:Type} {c : α → List V} {N:Nat} {xs pre:List (List V)} {e:Exit} {σ : St} {l:List α} {y o2:O} (h:some ([],y)=some (l,o2)) (hx:xs=pre++(l.map c++[])) (he:e = .normal∨e = .ret) (hl : σ.s.live[0]? = some pre.length):∃ τ,Le (0,1) N σ τ ∧ IEnd N xs e τ := by
 cases h
 have:xs.length=pre.length:=by rw[hx]; simp
 refine⟨_,le01 hl,.inl ⟨he,?_⟩⟩
 rw[this]
 exact .refl _ _ _
theorem sndI {α O:Type} {l:List α} {y o2:O} (h:some (([]:List α),y)=some (l,o2)):some y=some o2:=by cases h; rfl
theorem liveQ {α O:Type} {c : α → List V} {xs pre gq post:List (List V)} {l:List α} {y o2:O} {L L' : List Nat} (h:some ([],y)=some (l,o2)) (hx:xs=pre++(l.map c++post)) (hq:xs=gq++post) (hl:L=pre.length::L'):L=gq.length::L' := by
 cases h
 have e1:xs.length=pre.length+post.length:=by rw[hx]; simp
 have e2:xs.length=gq.length+post.length:=by rw[hq]; simp
 rw[hl,show pre.length=gq.length by omega]
theorem joinS {B:Nat×Nat} {N:Nat} {xs:List (List V)} {J G:Exit→St→Prop} (k:∀ e σ,J e σ → ∃ τ,Le B N σ τ ∧ G e τ) (s:∀ s' : S,s'.heap.length=B.1→s'.live.length=B.2→s'.live[0]? = some (xs.length+1)→G .ret ⟨[],s'⟩):∀ e σ,Qs B N xs J e σ → ∃ τ,Le B N σ τ ∧ G e τ := fun e σ h=>by
 rcases h with h | ⟨rfl,s', h1,h2,h3,h4⟩
 ·exact k e σ h
 ·exact⟨_,h1,s s' h2 h3 h4⟩
theorem Q01 {α O:Type} {c : α → List V} {xs pre post:List (List V)} {x : α} {m:Option (List α × O)} {l:List α} {o2:O} {t:Nat} {ds:List D} {vs:List V} {s:S} {K:D→S→Prop}
  (h:(m>>=fun q=>some (x::q.1,q.2))=some (l,o2)) (hx:xs=pre++(l.map c++post)) (hl:LeL vs (c x)) (hu:unps ds=some vs) (hlive:s.live[t]? = some pre.length)
  (k1:∀ l', m=some (l', o2)→xs=(pre++[c x])++(l'.map c++post)→K (.p (.v (.bool true))) ⟨s.heap,s.live.set t (pre++[c x]).length⟩) (k2:K (.p (.v (.bool false))) ⟨s.heap,s.live.set t (xs.length+1)⟩) :
  true=true∧P=P∧aYield t xs ds s K:=by
 obtain⟨q,hm,hq⟩:=Option.bind_eq_some_iff.1 h
 cases hq
 have e:xs=(pre++[c x])++(q.1.map c++post):=by rw[hx]; simp
 refine⟨rfl,rfl,pre.length,c x,vs,hlive,?_,hu,.of_le hl,?_,k2⟩
 ·rw[hx]; simp
 ·have:=k1 q.1 hm e
  rw[List.length_append] at this
  exact this
theorem Qrd {α O R:Type} {c : α → List V} {xs pre post:List (List V)} {m:Option (List α × O)} {f:List α × O→Option (List α × R)} {l:List α} {o2:R} {φ : Prop}
  (h:(m>>=fun o=>f o>>=fun q=>some (o.1++q.1,q.2))=some (l,o2)) (hx:xs=pre++(l.map c++post))
  (k:∀ o l2 gq,m=some o→f o=some (l2,o2)→xs=pre++(o.1.map c++(l2.map c++post))→xs=gq++(l2.map c++post) → φ) : φ := by
 obtain⟨o,ho,hf⟩:=Option.bind_eq_some_iff.1 h
 obtain⟨q,hq,he⟩:=Option.bind_eq_some_iff.1 hf
 cases he
 exact k o q.1 (pre++o.1.map c) ho hq (by rw[hx]; simp) (by rw[hx]; simp)
theorem Le.env0 {B:Nat×Nat} {N:Nat} (σ : St):Le B N σ ⟨[],σ.s⟩:=⟨fun G _ w hR=>⟨G,.refl B G w,⟨hR.inv,fun t d h=>by simp at h,hR.size⟩⟩⟩
theorem Qyj {α : Type} {c : α → List V} {size:Nat} (hs:∀ x,(c x).length=size):∀ (l:List α) (i:Nat) (x : α),l[i]? = some x→((l.map c).flatten.drop (i*size)).take size=c x∧i*size+size≤(l.map c).flatten.length
 | [],i,x,h=>by simp at h
 | y::r,0,x,h=>by
  simp only[List.getElem?_cons_zero,Option.some.injEq] at h
  subst h
  refine⟨?_,?_⟩
  ·rw[Nat.zero_mul,List.drop_zero,List.map_cons,List.flatten_cons,List.take_append_of_le_length (Nat.le_of_eq (hs y).symm),List.take_of_length_le (Nat.le_of_eq (hs y))]
  ·rw[List.map_cons,List.flatten_cons,List.length_append,hs]; omega
 | y::r,i+1,x,h=>by
  rw[List.getElem?_cons_succ] at h
  obtain⟨h1,h2⟩:=Qyj hs r i x h
  have e:(i+1)*size=(c y).length+i*size:=by rw[hs,Nat.add_mul]; omega
  refine⟨?_,?_⟩
  ·rw[e,List.map_cons,List.flatten_cons,List.drop_append]
   have e2:(c y).drop ((c y).length+i*size)=[]:=List.drop_eq_nil_of_le (by omega)
   rw[e2,List.nil_append,Nat.add_sub_cancel_left]
   exact h1
  ·rw[e,List.map_cons,List.flatten_cons,List.length_append]; omega
theorem Q02:∀ l:List V,unps (l.map .p)=some l
 | []=>rfl
 | x::r=>by rw[List.map_cons,unps,Q02 r]; rfl
theorem Q0j {α R:Type} {l:List α} {n:Int} {len size:Nat} {c : α → List V} {te:TI} {cs:List V} {f : α → Option R} {r:R} {s:S} {K:D→S→Prop} (h:(idx l n>>=f)=some r) (hc:cs=(l.map c).flatten) (hl:l.length=len) (hz:te.size=size) (hs:∀ x,(c x).length=size) (ha:isAggD te.d=true)
  (k:∀ x,idx l n=some x→f x=some r→K (.p (.agg (c x))) s):0≤n∧n<(len:Int)∧aPart te (.p (.agg cs)) (n.toNat*te.size) s K:=by
 refine Qah h fun x hx hf=>?_
 have hk:=k x hx hf
 unfold idx at hx
 split at hx
 ·rename_i hi
  have hlt:=(List.getElem?_eq_some_iff.1 hx).1
  refine⟨hi,by omega,?_⟩
  subst hc
  obtain⟨f1,f2⟩:=Qyj hs l _ x hx
  unfold aPart
  simp only[dcells,ha,hz]
  rw[if_pos (by rw[List.length_map]; exact f2),← List.map_drop,← List.map_take,f1]
  unfold aggD
  rw[Q02]
  exact hk
 ·cases hx
theorem Q1f {α R:Type} {l:List α} {n:Int} {len:Nat} {c : α → V} {te:TI} {cs:List V} {f : α → Option R} {r:R} {s:S} {K:D→S→Prop} (h:(idx l n>>=f)=some r) (hc:cs=l.map c) (hl:l.length=len) (hz:te.size=1) (ha:isAggD te.d=false)
  (k:∀ x,idx l n=some x→f x=some r→K (.p (c x)) s):0≤n∧n<(len:Int)∧aPart te (.p (.agg cs)) (n.toNat*te.size) s K:=by
 refine Qah h fun x hx hf=>?_
 have hk:=k x hx hf
 unfold idx at hx
 split at hx
 ·rename_i hi
  have hlt:=(List.getElem?_eq_some_iff.1 hx).1
  refine⟨hi,by omega,?_⟩
  subst hc
  unfold aPart
  simp only[dcells,ha,hz,Nat.mul_one]
  rw[List.getElem?_map,List.getElem?_map,hx]
  exact hk
 ·cases hx
end
theorem Quk {α R:Type} {l:List α} {i:Int} {c c' : α → List V} {f : α → Option R} {r:R} {sz tk v:Nat} {lv:List Nat} {K:List V→Prop} (h:(idx l i>>=f)=some r) (hl:lv[tk]? = some v) (hc:∀ x,c x=c' x) (hs:∀ x,(c' x).length=sz) (hz:0<sz) (k:∀ x,idx l i=some x→f x=some r→K (c' x)) :
  lv[tk]? = some v∧∃ cell,0≤i∧(l.map c)[i.toNat]? = some cell∧cell.length=sz∧0<sz∧K cell:=⟨hl,Qm9 h hc hs hz k⟩
theorem setMap {α : Type} {l:List α} {c : α → List V} {i:Nat} {x:List V} {y : α} (h:LeL x (c y)):LeLL ((l.map c).set i x) ((l.set i y).map c):=by
 refine⟨by simp,fun j e e' he he' => ?_⟩
 rw[List.getElem?_map] at he'
 obtain⟨z,hz,rfl⟩:=Option.map_eq_some_iff.1 he'
 by_cases hij:i=j
 ·subst hij
  have hlt:i<l.length:=by have:=(List.getElem?_eq_some_iff.1 hz).1; simpa using this
  rw[List.getElem?_set_self (by simpa using hlt)] at he
  rw[List.getElem?_set_self hlt] at hz
  cases he; cases hz
  exact h
 ·rw[List.getElem?_set_ne hij,List.getElem?_map] at he
  rw[List.getElem?_set_ne hij] at hz
  rw[hz] at he
  cases he
  exact .refl _
theorem Qyk {α R:Type} {bytes:Nat} {a b:List α} {c : α → List V} {fs:List (List V)} {sz tk v:Nat} {f:List α → Option R} {r:R} {lv:List Nat} {K:List (List V)→Prop} (h:(appL bytes a b>>=f)=some r) (hf:LeLL fs (b.map c)) (hs:∀ x,(c x).length=sz)
  (hl:lv[tk]? = some v) (k:∀ o,appL bytes a b=some o→f o=some r→K (o.map c)) :
  lv[tk]? = some v∧((∀ x ∈ fs,x.length=sz)∧((a.map c).length+fs.length)*bytes≤140737488355328∧(a.map c).length+fs.length≤9223372036854775807)∧∃ es', LeLL (a.map c++fs) es' ∧ K es' := by
 refine Qah h fun o ho hk=>?_
 obtain⟨h1,h2,h3,-⟩:=appMap ho hf hs
 exact⟨hl,h1,_,h2,k o ho hk⟩
end Go.Proofs.YtagokkpnfceidaaDoor
end

section
namespace Go.Proofs.YtagokkpnfceidaaDoor
open Go.RowKit
abbrev mx:Nat:=9223372036854775807
@[simp] theorem Qcw {α : Type} (l:List α) (i:Nat):idx l (i:Int)=l[i]? := by
 unfold idx
 rw[if_pos (by omega)]
 rfl
theorem Qul {α : Type} (l:List α) (n:Nat):idx l (OfNat.ofNat n:Int)=l[n]? := Qcw l n
@[simp] theorem idx_0 {α : Type} (l:List α):idx l 0=l[0]? := Qcw l 0
@[simp] theorem idx_1 {α : Type} (l:List α):idx l 1=l[1]? := Qcw l 1
@[simp] theorem Qad {α β : Type} (x : α) (f : α → Option β):(some x>>=f)=f x:=rfl
theorem wr_in {n:Int} (h1 : -9223372036854775808≤n) (h2:n≤9223372036854775807):wr n=n:=w64 h1 h2
theorem Qd8 {i:Nat} (h:i<9223372036854775807):wr ((i:Int)+1)=((i+1:Nat):Int):=by rw[wr_in (by omega) (by omega)]; rfl
theorem Qld {α : Type} {bytes:Nat} {a b:List α} (h:(a.length+b.length)*bytes≤140737488355328) (h2:a.length+b.length≤9223372036854775807):appL bytes a b=some (a++b):=by
 unfold appL; rw[if_pos ⟨h,h2⟩]
theorem Qle {α : Type} {l:List α} {lo hi:Int} (h1:0≤lo) (h2:lo≤hi) (h3:hi≤l.length):cutL l lo hi=some ((l.take hi.toNat).drop lo.toNat):=by
 unfold cutL; rw[if_pos ⟨h1,h2,h3⟩]
theorem Qiz {p:Prop} [Decidable p] (h:p):need p=some ():=by unfold need; rw[if_pos h]
theorem getE {α : Type} {l:List α} {i:Nat} (h:i<l.length):l[i]? = some l[i]:=List.getElem?_eq_getElem h
theorem ltI (a b:Nat):decide ((a:Int)<(b:Int))=decide (a<b):=by
 congr 1; exact propext Int.ofNat_lt
theorem upto {α : Type} {l : List α} {φ : Nat → Prop} (h0 : φ l.length) (h : ∀ i, i < l.length → φ (i + 1) → φ i) : ∀ i, i ≤ l.length → φ i := by
  have key : ∀ n i, l.length - i = n → i ≤ l.length → φ i := by
    intro n
    induction n with
    | zero => intro i h1 h2; have : i = l.length := by omega
              subst this; exact h0
    | succ n ih => intro i h1 h2; exact h i (by omega) (ih (i + 1) (by omega) (by omega))
  exact fun i hi => key _ i rfl hi
theorem dropE {α : Type} {l:List α} {i:Nat} (h:i<l.length):l.drop i=l[i]::l.drop (i+1):=List.drop_eq_getElem_cons h
end Go.Proofs.YtagokkpnfceidaaDoor
end

section
namespace Go.Proofs.YtagokkpnfceidaaDoor
open Go.RowKit
theorem Qxd {G:Gh} {s:S} {w w' : World} (hI:Inv G s w) {t:Nat} {T:Tok} (hT:G.tok[t]? = some T) (hp:T.pro=none) (h1:w'.os=w.os) (h2:w'.tape=w.tape) (h3:w'.output=w.output) (h4:w.heap.size≤w'.heap.size)
  (hold:∀ b,b<w.heap.size→T.blk≠some b→w'.heap[b]? = w.heap[b]?) (hcell:∀ g,T.blk=some g→∀ o u,w.cell? ⟨g,o,none⟩=some u→w'.cell? ⟨g,o,none⟩=some u) (hsh:ShKept w w') :
  Stp G w { G with tok:=G.tok.set t ⟨T.len+1,none,0,none⟩ } w' ∧ Inv { G with tok:=G.tok.set t ⟨T.len+1,none,0,none⟩ } { s with live:=s.live.set t (T.len+1) } w' := by
 obtain⟨N,hN⟩:∃ N:Tok,N=⟨T.len+1,none,0,none⟩:=⟨_,rfl⟩
 have hNb:∀ b,¬ N.has b:=fun b hb=>by subst hN; exact(nomatch Tok.has_row.1 hb)
 rw[← hN]
 have hTm:T ∈ G.tok:=List.mem_of_getElem? hT
 have hlt:t<G.tok.length:=(List.getElem?_eq_some_iff.1 hT).1
 have hset:∀ (t' : Nat) T', (G.tok.set t N)[t']? = some T' → (t' = t∧T' = N)∨(t' ≠ t∧G.tok[t']? = some T'):=fun t' T' h=>by
  by_cases htt:t' = t
  ·subst htt
   rw[List.getElem?_set_self hlt] at h
   exact .inl ⟨rfl,(Option.some.inj h).symm⟩
  ·rw[List.getElem?_set_ne (fun e=>htt e.symm)] at h
   exact .inr ⟨htt,h⟩
 have hmem:∀ T', T' ∈ G.tok.set t N→T' = N∨∃ t', t' ≠ t∧G.tok[t']? = some T' := fun T' h=>by
  obtain⟨t', ht'⟩:=List.getElem?_of_mem h
  rcases hset t' T' ht' with ⟨-,h⟩ | ⟨h,h'⟩
  ·exact .inl h
  ·exact .inr ⟨t', h,h'⟩
 have hoth:∀ (t' : Nat) T' b,t' ≠ t→G.tok[t']? = some T' → T'.has b→w'.heap[b]? = w.heap[b]? := fun t' T' b hne h hb=>by
  obtain⟨k1,-,k3⟩:=hI.tok t' T' b h hb
  exact hold b k1 fun e=>hne (k3 t T hT (.inl e)).symm
 have hnm:∀ b ∈ G.name,w'.heap[b]? = w.heap[b]? := fun b hb=>hold b (Qdv hI b hb) fun e=>(hI.tok t T b hT (.inl e)).2.1 hb
 have hst:Stp G w { G with tok:=G.tok.set t N } w' := by
  refine⟨⟨h1,h2,h3,h4,fun b o u h hu=>⟨h,?_⟩,fun b hb _ hn=>hold b hb fun e=>hn T hTm (.inl e),fun b o h =>.inl h,fun b h=>?_,fun _ _ h=>h,hsh⟩,fun nm b h=>h,fun t' T' h=>?_⟩
  ·by_cases hb:T.blk=some b
   ·exact hcell b hb o u hu
   ·rw[World.cell?_of_block (w:=w) (hold b (hI.com b o h).1 hb)]; exact hu
  ·rcases h with h | ⟨T', hT', hb⟩
   ·exact .inr (.inl h)
   ·rcases hmem T' hT' with rfl | ⟨t', -,h⟩
    ·exact absurd hb (hNb b)
    ·exact .inr (.inr ⟨T', List.mem_of_getElem? h,hb⟩)
  ·by_cases htt:t' = t
   ·subst htt
    rw[hT] at h
    cases h
    refine⟨N,List.getElem?_set_self hlt,⟨by rw[hN]; exact Nat.le_succ _,by rw[hN,hp]⟩,fun e=>?_⟩
    rw[hN] at e
    have e:T.len=T.len+1:=e
    omega
   ·refine⟨T', ?_,.refl T', fun _=>⟨rfl,fun b hb=>hoth t' T' b htt h hb⟩⟩
    show(G.tok.set t N)[t']? = _
    rw[List.getElem?_set_ne (fun e=>htt e.symm)]; exact h
 refine⟨hst,⟨fun b o h=>?_,hI.names,hI.nodup,fun i b cs hb hcs=>?_,?_,fun t' T' b h hb=>?_,fun T' hT' => ?_,hI.glob.mono hst.ext.com⟩⟩
 ·obtain⟨k1,k2,k3⟩:=hI.com b o h
  refine⟨Nat.lt_of_lt_of_le k1 h4,k2,fun T' hT' => ?_⟩
  rcases hmem T' hT' with rfl | ⟨t', -,h⟩
  ·exact⟨fun hb=>absurd (.inl hb) (hNb b),fun hb=>absurd (.inr hb) (hNb b)⟩
  ·exact k3 T' (List.mem_of_getElem? h)
 ·exact(hI.var i b cs hb hcs).mono hst (by rw[hnm b (List.mem_of_getElem? hb)])
 ·show(G.tok.set t N).map (·.len)=s.live.set t (T.len+1)
  rw[List.map_set,hI.live,hN]
 ·rcases hset t' T' h with ⟨-,rfl⟩ | ⟨hne,h⟩
  ·exact absurd hb (hNb b)
  ·obtain⟨k1,k2,k3⟩:=hI.tok t' T' b h hb
   refine⟨Nat.lt_of_lt_of_le k1 h4,k2,fun t'' T'' h' hb' => ?_⟩
   rcases hset t'' T'' h' with ⟨-,rfl⟩ | ⟨-,h'⟩
   ·exact absurd hb' (hNb b)
   ·exact k3 t'' T'' h' hb'
 ·rcases hmem T' hT' with rfl | ⟨t', hne,h⟩
  ·exact⟨fun q hq=>absurd hq (by rw[hN]; simp),fun b o ⟨q,hq,_⟩=>absurd hq (by rw[hN]; simp)⟩
  ·have hm:=List.mem_of_getElem? h
   exact⟨Tok.ok_ext (hI.pro T' hm) hst.ext fun b hb=>hoth t' T' b hne h hb,fun b o hr=>(hI.pro T' hm).2 b o hr⟩
theorem Qum {w:World} {g n:Nat} {us:Array Value} {e:TypeId} (h:w.heap[g]? = some (.cells us e (0,0))) (hn:n≠0):(w.freeze ⟨g,0,none⟩ n).heap[g]? = some (.cells us e (0,n))∧(∀ b,b≠g→(w.freeze ⟨g,0,none⟩ n).heap[b]? = w.heap[b]?)∧(w.freeze ⟨g,0,none⟩ n).heap.size=w.heap.size ∧
  (w.freeze ⟨g,0,none⟩ n).os=w.os∧(w.freeze ⟨g,0,none⟩ n).tape=w.tape∧(w.freeze ⟨g,0,none⟩ n).output=w.output:=by
 unfold World.freeze
 rw[if_neg hn]
 refine⟨?_,fun b hb=>?_,by simp,rfl,rfl,rfl⟩
 ·simp[Array.getElem?_modify,h]
 ·simp[Array.getElem?_modify,Ne.symm hb]
end Go.Proofs.YtagokkpnfceidaaDoor
end

section
set_option linter.unusedVariables false
namespace Go.Proofs.YtagokkpnfceidaaDoor
open Go.RowKit Go.Shelf
attribute [local go_sem] Oper.semAt_some
set_option maxRecDepth 100000 in
set_option maxHeartbeats 1000000 in
theorem Qpn (b:Nat) (w:World) (h0:w.cell? ⟨b,0,none⟩=some (.pointer (some ⟨b,0,none⟩))) :
  Calls Tryd.prog 53 #[.pointer (some ⟨b,0,none⟩)] w fun e w' => e = .returned (.tuple #[])∧w' = w:=by
 obtain⟨_,j,hj,hjs,_⟩:=tbOk 44 _ rfl
 go_enter Tryd.func53,Tryd.ntmps53
 go_wp2
 rw[Lib.run_neq_ptr_same w _ Tryd.underlying42 hj]
 go_wp2
 go_end0
 exact⟨rfl,rfl⟩
set_option maxRecDepth 100000 in
set_option maxHeartbeats 1000000 in
theorem Qol (b e n:Nat) (w:World) (h0:w.cell? ⟨b,0,none⟩=some (.pointer none)) (hsh:w.shape? b=some (e,n)) (hn:0<n) (hl:liesAt Tryd.prog Tryd.prog.depth e (n / Tryd.prog.cellsOf e) 0 44 1=true) (hfz:w.frozen? ⟨b,0,none⟩=false) :
  Calls Tryd.prog 53 #[.pointer (some ⟨b,0,none⟩)] w fun e w' => e = .returned (.tuple #[])∧w' = w.setCell ⟨b,0,none⟩ (.pointer (some ⟨b,0,none⟩)):=by
 obtain⟨_,j,hj,hjs,_⟩:=tbOk 44 _ rfl
 go_enter Tryd.func53,Tryd.ntmps53
 go_wp2
 rw[Lib.run_to_unsafe w ⟨b,0,none⟩ Tryd.underlying42 Tryd.underlying115 hj (by rw[hjs]; decide) hsh hn]
 simp only[Result.andThen]
 rw[Oper.upon_value]
 go_wp2
 rw[run_callFunc_extern Tryd.func87 (by kernel_rfl) (by kernel_rfl) (by kernel_rfl) (e:=Extern.AbiNoEscape.same) (by kernel_rfl)]
 rw[Lib.run_noEscape]
 simp only[Result.andThen]
 rw[Oper.upon_value]
 go_wp2
 rw[Lib.run_from_unsafe w ⟨b,0,none⟩ Tryd.underlying115 Tryd.underlying42 hj hsh hl]
 simp only[Result.andThen]
 rw[Oper.upon_value]
 go_wp2
 go_end0
 exact⟨rfl,rfl⟩
set_option maxRecDepth 100000 in
set_option maxHeartbeats 2000000 in
theorem Qlf (b n cap:Nat) (a:Option Addr) (q:Option Addr) (z:ByteArray) (w w1 w2:World) (h0:w.drew.cell? ⟨b,1,none⟩=some (.slice a n cap)) (h1:w1.cell? ⟨b,1,none⟩=some (.slice a n cap))
  (hSD:(Builtin.unsafeSliceData_ #[40] 89 #[.slice a n cap]).run Tryd.prog w.drew = .ok (.pointer q) w1)
  (hUS:(Builtin.unsafeString_ #[89,3] 9 #[.pointer q,.int .i64 n]).run Tryd.prog w1 = .ok (.string z) w2) :
  Calls Tryd.prog 29 #[.pointer (some ⟨b,0,none⟩)] w fun e w' => e = .returned (.string z)∧w' = w2:=by
 have mixed:=mixed
 go_enter Tryd.func29,Tryd.ntmps29
 go_wp2
 go_region_o
 all_goals (go_wp2; go_ret; exact⟨rfl,rfl⟩)
end Go.Proofs.YtagokkpnfceidaaDoor
end

section
namespace Go.Proofs.YtagokkpnfceidaaDoor
open Go.RowKit
theorem Qyl {a:List Int} {l:List UInt8} (h:b2s a=some l):a.map (cNum .u8)=l.map byteV:=by
 unfold b2s at h
 split at h
 ·rename_i hc
  cases h
  rw[List.map_map]
  refine List.map_congr_left fun n hn=>?_
  have:=List.all_eq_true.1 hc n hn
  simp only[decide_eq_true_eq] at this
  simp[cNum,byteV,nV]
  omega
 ·cases h
theorem Qpo {P:Program} (w:World) (ts:Array TypeId) (ty e:TypeId) (hp:P.underlying ty=some (.pointer e)) (a:Addr) (n:Nat) (hlt:a.block<w.heap.size) :
  ∃ q w1,(Builtin.unsafeSliceData_ ts ty #[.slice (some a) n 0]).run P w = .ok (.pointer q) w1∧(w1=w∨w1=w.alloc (.view a e)):=by
 cases hsh:w.shape? a.block with
 | some sh=>exact⟨_,_,Lib.run_unsafeSliceData_zero w ts ty e hp a n sh hsh,.inr rfl⟩
 | none =>
  have hdef:Builtin.unsafeSliceData_ ts ty #[.slice (some a) n 0] =
    (do
     if(0:Nat)≠0 then pure (.pointer (some a))
     else if(← viewAt a.block).isSome then pure (.pointer (some a))
     else pure (.pointer (some ⟨← newObj (.view a (← elemOf ty)),0,none⟩))):=rfl
  rw[hdef]
  obtain⟨o,ho⟩:∃ o,w.heap[a.block]? = some o:=⟨_,Array.getElem?_eq_getElem hlt⟩
  have hg:∀ c t f,o ≠ .cells c t f:=fun c t f h=>by
   subst h
   unfold World.shape? at hsh
   rw[ho] at hsh; cases hsh
  have hgo:(getObj a.block).run P w = .ok o w:=by
   unfold getObj
   simp only[Sem.run,ho]
  by_cases hv:∃ b t,o = .view b t
  ·obtain⟨b,t,rfl⟩:=hv
   refine⟨some a,w,?_,.inl rfl⟩
   simp[viewAt,hsh,hgo]
  ·refine⟨some ⟨w.heap.size,0,none⟩,_,?_,.inr rfl⟩
   have hva:(viewAt a.block).run P w = .ok none w:=by
    simp only[viewAt]
    simp[hsh,hgo]
    cases o<;>first | rfl | exact absurd ⟨_,_,rfl⟩ hv
   simp[hva,elemOf,run_underlying hp]
theorem Qs8 (h:List (List D)) (live:List Nat) (nm:Nat) {b:Bool} (ds:List D) (hds:h[nm]? = some ds) (hof:ds[0]? = some (.sp Tryd.prog 44 b nm 0)) :
  CallOK Tryd.prog 53 [.ptr nm 0] ⟨h,live⟩ (.tup []) ⟨h.set nm (ds.set 0 (.sp Tryd.prog 44 true nm 0)),live⟩:=by
 refine⟨by kernel_rfl,fun G w us hI hl hrel=>?_⟩
 obtain⟨u,rfl⟩:∃ u,us = #[u]:=⟨us[0]'(by rw[hl]; exact Nat.zero_lt_one),by
  apply Array.ext (by simpa using hl)
  intro i h1 h2
  have:i=0:=by simp at h2; omega
  subst this; rfl⟩
 have hp:=hrel 0 _ u rfl rfl
 cases hp with
 | ptr _ _ k hk =>
  obtain⟨vs,ty,v1,v2,v3⟩:=(hI.var nm k ds hk hds).at hof (fun _ h=>nomatch h)
  have hlt:0<vs.size:=by rw[v2]; exact(List.getElem?_eq_some_iff.1 hof).1
  have hc:=v3 0 _ vs[0] hof (Array.getElem?_eq_getElem hlt)
  have hcell:w.cell? ⟨k,0,none⟩=some vs[0]:=by
   rw[cell_of_row w k 0 vs ty (0,0) v1]; exact Array.getElem?_eq_getElem hlt
  cases hc.2 with
  | sp _ _ _ _ _ i e n _ h1 h2 h3 h4 h5 h6 =>
   have hik:i=k:=by rw[hk] at h1; exact(Option.some.inj h1).symm
   subst hik
   cases b with
   | true =>
    rw[h6 rfl] at hcell
    refine(Qpn i w hcell).mono ?_
    rintro e w' ⟨rfl,rfl⟩
    refine⟨_,G,rfl,.refl G _,?_,.tup _ _ rfl (fun j c u hc=>by simp at hc)⟩
    refine hI.setCell (s:=⟨h,live⟩) hds (fun _ hd=>by rw[hof] at hd; cases hd) fun u hu=>?_
    obtain⟨c,hc,hu⟩:=hu
    rw[hof] at hc
    cases hc
    exact hu
   | false =>
    rw[h5 rfl] at hcell
    refine(Qol i e n w hcell h2 h3 h4 (by simp[World.frozen?,v1])).mono ?_
    rintro e' w' ⟨rfl,rfl⟩
    have hset:(w.setCell ⟨i,0,none⟩ (.pointer (some ⟨i,0,none⟩))).heap[i]? = some (.cells (vs.setIfInBounds 0 (.pointer (some ⟨i,0,none⟩))) ty (0,0)):=by
     simp[World.setCell,Array.getElem?_modify,v1]
    have hoth:∀ b,b≠i→(w.setCell ⟨i,0,none⟩ (.pointer (some ⟨i,0,none⟩))).heap[b]? = w.heap[b]? := fun b hb=>by
     simp[World.setCell,Array.getElem?_modify,Ne.symm hb]
    obtain⟨s1,s2⟩:=Qn0 hI nm i hk vs ty v1 (ds.set 0 (.sp Tryd.prog 44 true nm 0)) (vs.setIfInBounds 0 (.pointer (some ⟨i,0,none⟩))) (by simp[v2]) (by simp) (fun j c u hc hu=>by
     by_cases hj:j=0
     ·subst hj
      rw[List.getElem?_set_self (by rw[← v2]; exact hlt)] at hc
      cases hc
      rw[Array.getElem?_setIfInBounds_self_of_lt hlt] at hu
      cases hu
      exact⟨rfl,.sp _ _ _ _ _ i e n _ hk h2 h3 h4 (fun h=>by cases h) (fun _=>rfl)⟩
     ·rw[List.getElem?_set_ne (fun e=>hj e.symm)] at hc
      rw[Array.getElem?_setIfInBounds_ne (fun e=>hj e.symm)] at hu
      exact v3 j c u hc hu) (w.setCell ⟨i,0,none⟩ (.pointer (some ⟨i,0,none⟩))) rfl rfl rfl (by simp[World.setCell]) hset hoth
    exact⟨_,G,rfl,s1,s2,.tup _ _ rfl (fun j c u hc=>by simp at hc)⟩
theorem Qnh (h:List (List D)) (live:List Nat) (nm t:Nat) (ds:List D) (es:List (List V)) {l:List UInt8} (hds:h[nm]? = some ds) (hof:ds[1]? = some (.own t 5 1 es)) (hlv:live[t]? = some es.length) (hes:es=l.map byteV) :
  CallOK Tryd.prog 29 [.ptr nm 0] ⟨h,live⟩ (.p (.v (strOf l))) ⟨h.set nm (ds.set 1 (.p (.sl false es))),live.set t (es.length+1)⟩:=by
 refine⟨by kernel_rfl,fun G w us hI hl hrel=>?_⟩
 obtain⟨u,rfl⟩:∃ u,us = #[u]:=⟨us[0]'(by rw[hl]; exact Nat.zero_lt_one),by
  apply Array.ext (by simpa using hl)
  intro i h1 h2
  have:i=0:=by simp at h2; omega
  subst this; rfl⟩
 have hp:=hrel 0 _ u rfl rfl
 have hln:es.length=l.length:=by rw[hes,List.length_map]
 cases hp with
 | ptr _ _ k hk =>
  obtain⟨vs,ty,v1,v2,v3⟩:=(hI.var nm k ds hk hds).at hof (fun _ h=>nomatch h)
  have hlt:1<vs.size:=by rw[v2]; exact(List.getElem?_eq_some_iff.1 hof).1
  have hc:=(v3 1 _ vs[1] hof (Array.getElem?_eq_getElem hlt)).2
  have hcell:w.cell? ⟨k,1,none⟩=some vs[1]:=by
   rw[cell_of_row w k 1 vs ty (0,0) v1]; exact Array.getElem?_eq_getElem hlt
  obtain⟨v,hv⟩:∃ v,v=vs[1]:=⟨_,rfl⟩
  rw[← hv] at hcell hc
  cases hc with
  | own _ _ _ _ _ T x1 x2 x3 x0 x4 x5 =>
   have hlen:es.length=T.len:=by
    have:(G.tok.map (·.len))[t]? = some T.len:=by rw[List.getElem?_map,x3]; rfl
    rw[hI.live,hlv] at this
    exact Option.some.inj this
   obtain⟨a,cap,rfl,hO⟩:=x5 hlen
   obtain⟨a2,cap2,e2,c1,c2,-⟩:=x1.isSlice
   cases e2
   have fin:∀ w' : World,w'.os=w.os→w'.tape=w.tape→w'.output=w.output→w.heap.size≤w'.heap.size→(∀ b,b<w.heap.size→T.blk≠some b→w'.heap[b]? = w.heap[b]?) →
     (∀ g,T.blk=some g→∀ o u,w.cell? ⟨g,o,none⟩=some u→w'.cell? ⟨g,o,none⟩=some u)→ShKept w w' → ∃ u G', Ending.returned (.string ⟨l.toArray⟩) = .returned u∧Stp G w G' w' ∧ Inv G' ⟨h.set nm (ds.set 1 (.p (.sl false es))),live.set t (es.length+1)⟩ w' ∧ DRel G' w' (.p (.v (strOf l))) u:=fun w' k1 k2 k3 k4 k5 k6 k7=>by
    obtain⟨s1,s2⟩:=Qxd hI x3 x0 k1 k2 k3 k4 k5 k6 k7
    rw[← hlen] at s1 s2
    refine⟨_,_,rfl,s1,s2.setCell (s:=⟨h,live.set t (es.length+1)⟩) hds (fun _ hd=>by rw[hof] at hd; cases hd) fun u hu=>?_,.p _ _ (.v _ rfl)⟩
    obtain⟨c,hc,hu⟩:=hu
    rw[hof] at hc
    cases hc
    cases hu with
    | own _ _ _ _ _ _ y1=>exact .p _ _ y1
   have hcd:w.drew.cell? ⟨k,1,none⟩=some (.slice a es.length cap):=hcell
   have hb:=Tryd.underlying89
   by_cases h0:es.length=0
   ·have hl0:l=[]:=List.eq_nil_of_length_eq_zero (by omega)
    subst hl0
    have hUS:∀ q (W:World),(Builtin.unsafeString_ #[89,3] 9 #[.pointer q,.int .i64 es.length]).run Tryd.prog W = .ok (.string ⟨#[]⟩) W:=fun q W=>by rw[h0]; exact Lib.run_unsafeString_none W _ _ _ q
    have plain:∀ q,(Builtin.unsafeSliceData_ #[40] 89 #[.slice a es.length cap]).run Tryd.prog w.drew = .ok (.pointer q) w.drew→Calls Tryd.prog 29 #[.pointer (some ⟨k,0,none⟩)] w fun e w' => ∃ u G', e = .returned u∧Stp G w G' w' ∧ Inv G' ⟨h.set nm (ds.set 1 (.p (.sl false es))),live.set t (es.length+1)⟩ w' ∧ DRel G' w' (.p (.v (strOf []))) u:=fun q hSD=>by
     refine(Qlf k es.length cap a q ⟨#[]⟩ w w.drew w.drew hcd hcd hSD (hUS q _)).mono ?_
     rintro e w' ⟨rfl,rfl⟩
     exact fin w.drew rfl rfl rfl (Nat.le_refl _) (fun _ _ _=>rfl) (fun _ _ _ _ h=>h) (fun _ _ h=>h)
    cases a with
    | none=>exact plain none rfl
    | some ad =>
     by_cases hc0:cap=0
     ·subst hc0
      have hlt:ad.block<w.drew.heap.size:=by
       rcases hO with hO | ⟨g,us,T', e1,-,-,-,⟨_,e5,-⟩,-⟩ | hO
       ·exact hO.2 ad rfl
       ·cases e1; exact(Array.getElem?_eq_some_iff.1 e5).1
       ·exact absurd hO.1 (by decide)
      obtain⟨q,w1,hSD,hw1⟩:=Qpo w.drew #[40] 89 5 hb ad es.length hlt
      rcases hw1 with rfl | rfl
      ·exact plain q hSD
      ·have hk2:k<w.heap.size:=(Array.getElem?_eq_some_iff.1 v1).1
       have hc2:(w.drew.alloc (.view ad 5)).cell? ⟨k,1,none⟩=some (.slice (some ad) es.length 0):=(cellAlloc w.drew _ k 1 hk2).trans hcd
       refine(Qlf k es.length 0 (some ad) _ ⟨#[]⟩ w _ _ hcd hc2 hSD (hUS _ _)).mono ?_
       rintro e w' ⟨rfl,rfl⟩
       have hh:∀ b,b<w.heap.size→(w.drew.alloc (.view ad 5)).heap[b]? = w.heap[b]? := fun b hb=>by
        rw[heapAlloc,if_neg (by show ¬ b=w.heap.size; omega)]; rfl
       refine fin _ rfl rfl rfl (by simp) (fun b hb _=>hh b hb) (fun g hg o u hu=>?_) (shAlloc w.drew _)
       exact(cellAlloc w.drew _ g o (cellLt hu)).trans hu
     ·exact plain (some ad) (Lib.run_unsafeSliceData_row _ _ _ _ _ _ hc0)
   ·rcases hO with hO | ⟨g,us,T', e1,e2,e3,e4,e5,e6⟩ | hO
    ·omega
    rotate_left
    ·exact absurd hO.1 (by decide)
    ·have e5:=e5.lt (by decide)
     rw[Qiq (by decide)] at e5
     subst e1
     rw[x3] at e2
     cases e2
     have hSD:(Builtin.unsafeSliceData_ #[40] 89 #[.slice (some ⟨g,0,none⟩) es.length cap]).run Tryd.prog w.drew = .ok (.pointer (some ⟨g,0,none⟩)) w.drew:=Lib.run_unsafeSliceData_row _ _ _ _ _ _ (by omega)
     have hl0:l≠[]:=fun h' => by subst h'; exact h0 (by rw[hln]; rfl)
     have hcl:∀ (j:Nat) x,l[j]? = some x→w.drew.cell? ((⟨g,0,none⟩:Addr).add j)=some (.int .u8 x.toNat):=fun j x hx=>by
      have he:es[j]? = some (byteV x):=by rw[hes,List.getElem?_map,hx]; rfl
      obtain⟨olds,o1,o2,o3,o4⟩:=x1.flat 1 x2 (by decide)
      obtain⟨u,hu,hr⟩:=o2 j 0 _ _ he (show(byteV x)[0]? = some _ from rfl)
      have hux:u = .int .u8 x.toNat:=by cases hr; rfl
      subst hux
      rcases o4 with o4 | ⟨b,off,q1,q2⟩
      ·omega
      ·cases q1
       have:=(q2 _ _ hu).1
       rw[addAt]
       simpa using this
     have hUS:=Lib.run_unsafeString_row (P:=Tryd.prog) w.drew 89 3 9 5 hb (by kernel_rfl) g us.size (Qg9 (w:=w.drew) e5) l hl0 (by rw[e6]; omega) (by unfold maxLen at c2; omega) hcl
     rw[← hln] at hUS
     have hgk:k≠g:=fun e=>(hI.tok t T g x3 (.inl e3)).2.1 (e ▸ List.mem_of_getElem? hk)
     refine(Qlf k es.length cap _ _ ⟨l.toArray⟩ w w.drew _ hcd hcd hSD hUS).mono ?_
     rintro e w' ⟨rfl,rfl⟩
     obtain⟨f1,f2,f3,f4,f5,f6⟩:=Qum (w:=w.drew) (n:=es.length) e5 h0
     refine fin _ f4 f5 f6 (Nat.le_of_eq f3.symm) (fun b _ hb=>f2 b fun e=>hb (e ▸ e3)) (fun g' hg' o u hu=>?_) (fun b sh hb=>?_)
     ·rw[e3] at hg'
      cases hg'
      rw[cell_of_row w g o us 5 (0,0) e5] at hu
      rw[cell_of_row _ g o us 5 _ f1]; exact hu
     ·by_cases hbg:b=g
      ·subst hbg
       rw[Qg9 e5] at hb
       rw[Qg9 f1]; exact hb
      ·rw[Qhz (w:=w) (f2 b hbg)]; exact hb
end Go.Proofs.YtagokkpnfceidaaDoor
end

section
namespace Go.Proofs
open Go.Shelf
def Tryd.lays161_ren:Go.Shelf.Ren:=⟨fun | 161=>107 | 231=>137 | 227=>138 | 233=>139 | 235=>140 | 228=>154 | 197=>99 | 151=>155 | 260=>129 | 152=>159 | 137=>96 | 119=>161 | 224=>124 | 225=>123 | 217=>122 | 266=>148 | n=>n,fun | 9=>9 | 4=>4 | 3=>3 | 5=>5 | 117=>150 | 116=>149 | 0=>0 | 124=>153 | 105=>127 | 21=>21 | 119=>166 | 46=>122 | 139=>169 | 138=>168 | n=>n,fun | 3=>2 | 4=>3 | n=>n⟩
theorem Tryd.lays161:Go.Proofs.Lays.n161 Tryd.prog Tryd.lays161_ren:={
 mixed:=by kernel_rfl
 f119:=Tryd.func161.trans (congrArg some (by kernel_rfl))
 f137:=Tryd.func96.trans (congrArg some (by kernel_rfl))
 f151:=Tryd.func155.trans (congrArg some (by kernel_rfl))
 f152:=Tryd.func159.trans (congrArg some (by kernel_rfl))
 f161:=Tryd.func107.trans (congrArg some (by kernel_rfl))
 f197:=Tryd.func99.trans (congrArg some (by kernel_rfl))
 f217:=Tryd.func122.trans (congrArg some (by kernel_rfl))
 f224:=Tryd.func124.trans (congrArg some (by kernel_rfl))
 f225:=Tryd.func123.trans (congrArg some (by kernel_rfl))
 f227:=Tryd.func138.trans (congrArg some (by kernel_rfl))
 f228:=Tryd.func154.trans (congrArg some (by kernel_rfl))
 f231:=Tryd.func137.trans (congrArg some (by kernel_rfl))
 f233:=Tryd.func139.trans (congrArg some (by kernel_rfl))
 f235:=Tryd.func140.trans (congrArg some (by kernel_rfl))
 f260:=Tryd.func129.trans (congrArg some (by kernel_rfl))
 f266:=Tryd.func148.trans (congrArg some (by kernel_rfl))
 t0:=Tryd.underlying0
 a0:=Tryd.isAgg0
 z0:=Tryd.sizeOf0
 v0:=Tryd.zeroValue0
 t3:=Tryd.underlying3
 a3:=Tryd.isAgg3
 z3:=Tryd.sizeOf3
 v3:=Tryd.zeroValue3
 t4:=Tryd.underlying4
 a4:=Tryd.isAgg4
 z4:=Tryd.sizeOf4
 v4:=Tryd.zeroValue4
 t5:=Tryd.underlying5
 a5:=Tryd.isAgg5
 z5:=Tryd.sizeOf5
 v5:=Tryd.zeroValue5
 t9:=Tryd.underlying9
 a9:=Tryd.isAgg9
 z9:=Tryd.sizeOf9
 v9:=Tryd.zeroValue9
 t21:=Tryd.underlying21
 a21:=Tryd.isAgg21
 z21:=Tryd.sizeOf21
 v21:=Tryd.zeroValue21
 t46:=Tryd.underlying122
 a46:=Tryd.isAgg122
 z46:=Tryd.sizeOf122
 v46:=Tryd.zeroValue122
 t105:=Tryd.underlying127
 a105:=Tryd.isAgg127
 z105:=Tryd.sizeOf127
 v105:=Tryd.zeroValue127
 t116:=Tryd.underlying149
 a116:=Tryd.isAgg149
 z116:=Tryd.sizeOf149
 t117:=Tryd.underlying150
 a117:=Tryd.isAgg150
 z117:=Tryd.sizeOf150
 v117:=Tryd.zeroValue150
 t119:=Tryd.underlying166
 a119:=Tryd.isAgg166
 z119:=Tryd.sizeOf166
 t124:=Tryd.underlying153
 a124:=Tryd.isAgg153
 z124:=Tryd.sizeOf153
 v124:=Tryd.zeroValue153
 t138:=Tryd.underlying168
 a138:=Tryd.isAgg168
 z138:=Tryd.sizeOf168
 v138:=Tryd.zeroValue168
 t139:=Tryd.underlying169
 a139:=Tryd.isAgg169
 z139:=Tryd.sizeOf169
 v139:=Tryd.zeroValue169
 g3:=by kernel_rfl
 g4:=by kernel_rfl }
def Tryd.lays103_ren:Go.Shelf.Ren:=⟨fun | 103=>65 | 210=>100 | 206=>92 | n=>n,fun | 9=>9 | 4=>4 | 24=>34 | 3=>3 | n=>n,fun | n=>n⟩
theorem Tryd.lays103:Go.Proofs.Lays.n103 Tryd.prog Tryd.lays103_ren:={
 mixed:=by kernel_rfl
 f103:=Tryd.func65.trans (congrArg some (by kernel_rfl))
 f206:=Tryd.func92.trans (congrArg some (by kernel_rfl))
 f210:=Tryd.func100.trans (congrArg some (by kernel_rfl))
 t3:=Tryd.underlying3
 a3:=Tryd.isAgg3
 z3:=Tryd.sizeOf3
 v3:=Tryd.zeroValue3
 t4:=Tryd.underlying4
 a4:=Tryd.isAgg4
 z4:=Tryd.sizeOf4
 v4:=Tryd.zeroValue4
 t9:=Tryd.underlying9
 a9:=Tryd.isAgg9
 z9:=Tryd.sizeOf9
 v9:=Tryd.zeroValue9
 t24:=Tryd.underlying34
 a24:=Tryd.isAgg34
 z24:=Tryd.sizeOf34
 v24:=Tryd.zeroValue34 }
open Go.RowKit in
theorem Tryd.strings_CutPrefix (s p:ByteArray) (w:World) :
  Calls Tryd.prog 65 #[.string s,.string p] w fun e w' => e = .returned (.tuple #[.string ⟨(Lib.trimPrefix s.data.toList p.data.toList).toArray⟩,.bool (Lib.hasPrefix s.data.toList p.data.toList)])∧w' = w:=Any.strings_CutPrefix Tryd.lays103 s p w
def Tryd.lays219_ren:Go.Shelf.Ren:=⟨fun | 219=>94 | 217=>122 | 225=>123 | 224=>124 | 267=>125 | 266=>148 | 314=>149 | n=>n,fun | 9=>9 | 3=>3 | 4=>4 | 5=>5 | 46=>122 | 146=>163 | 51=>123 | n=>n,fun | 1=>1 | n=>n⟩
theorem Tryd.lays219:Go.Proofs.Lays.n219 Tryd.prog Tryd.lays219_ren:={
 mixed:=by kernel_rfl
 f217:=Tryd.func122.trans (congrArg some (by kernel_rfl))
 f219:=Tryd.func94.trans (congrArg some (by kernel_rfl))
 f224:=Tryd.func124.trans (congrArg some (by kernel_rfl))
 f225:=Tryd.func123.trans (congrArg some (by kernel_rfl))
 f266:=Tryd.func148.trans (congrArg some (by kernel_rfl))
 f267:=Tryd.func125.trans (congrArg some (by kernel_rfl))
 f314:=Tryd.func149.trans (congrArg some (by kernel_rfl))
 t3:=Tryd.underlying3
 a3:=Tryd.isAgg3
 z3:=Tryd.sizeOf3
 v3:=Tryd.zeroValue3
 t4:=Tryd.underlying4
 a4:=Tryd.isAgg4
 z4:=Tryd.sizeOf4
 v4:=Tryd.zeroValue4
 t5:=Tryd.underlying5
 a5:=Tryd.isAgg5
 z5:=Tryd.sizeOf5
 v5:=Tryd.zeroValue5
 t9:=Tryd.underlying9
 a9:=Tryd.isAgg9
 z9:=Tryd.sizeOf9
 v9:=Tryd.zeroValue9
 t46:=Tryd.underlying122
 a46:=Tryd.isAgg122
 z46:=Tryd.sizeOf122
 v46:=Tryd.zeroValue122
 t51:=Tryd.underlying123
 a51:=Tryd.isAgg123
 z51:=Tryd.sizeOf123
 v51:=Tryd.zeroValue123
 t146:=Tryd.underlying163
 a146:=Tryd.isAgg163
 z146:=Tryd.sizeOf163
 v146:=Tryd.zeroValue163
 g1:=by kernel_rfl }
open Go.RowKit Go.Lib in
theorem Tryd.stringslite_Index (s sub:ByteArray) (m:Int) (w:World) (hs:s.size<4294967281) (hm:w.cell? ⟨1,0,none⟩=some (.int .i64 m)) :
  Calls Tryd.prog 94 #[.string s,.string sub] w fun e w' => e = .returned (.int .i64 (Lib.index s.data.toList sub.data.toList))∧w' = w:=Any.stringslite_Index Tryd.lays219 s sub m w hs hm
def Tryd.lays143_ren:Go.Shelf.Ren:=⟨fun | 143=>76 | 219=>94 | 217=>122 | 225=>123 | 224=>124 | 267=>125 | 266=>148 | 314=>149 | n=>n,fun | 9=>9 | 3=>3 | 4=>4 | 5=>5 | 46=>122 | 146=>163 | 51=>123 | n=>n,fun | 1=>1 | n=>n⟩
theorem Tryd.lays143:Go.Proofs.Lays.n143 Tryd.prog Tryd.lays143_ren:={
 mixed:=by kernel_rfl
 f143:=Tryd.func76.trans (congrArg some (by kernel_rfl))
 f217:=Tryd.func122.trans (congrArg some (by kernel_rfl))
 f219:=Tryd.func94.trans (congrArg some (by kernel_rfl))
 f224:=Tryd.func124.trans (congrArg some (by kernel_rfl))
 f225:=Tryd.func123.trans (congrArg some (by kernel_rfl))
 f266:=Tryd.func148.trans (congrArg some (by kernel_rfl))
 f267:=Tryd.func125.trans (congrArg some (by kernel_rfl))
 f314:=Tryd.func149.trans (congrArg some (by kernel_rfl))
 t3:=Tryd.underlying3
 a3:=Tryd.isAgg3
 z3:=Tryd.sizeOf3
 v3:=Tryd.zeroValue3
 t4:=Tryd.underlying4
 a4:=Tryd.isAgg4
 z4:=Tryd.sizeOf4
 v4:=Tryd.zeroValue4
 t5:=Tryd.underlying5
 a5:=Tryd.isAgg5
 z5:=Tryd.sizeOf5
 v5:=Tryd.zeroValue5
 t9:=Tryd.underlying9
 a9:=Tryd.isAgg9
 z9:=Tryd.sizeOf9
 v9:=Tryd.zeroValue9
 t46:=Tryd.underlying122
 a46:=Tryd.isAgg122
 z46:=Tryd.sizeOf122
 v46:=Tryd.zeroValue122
 t51:=Tryd.underlying123
 a51:=Tryd.isAgg123
 z51:=Tryd.sizeOf123
 v51:=Tryd.zeroValue123
 t146:=Tryd.underlying163
 a146:=Tryd.isAgg163
 z146:=Tryd.sizeOf163
 v146:=Tryd.zeroValue163
 g1:=by kernel_rfl }
open Go.RowKit Go.Lib in
theorem Tryd.strings_Index (s sub:ByteArray) (m:Int) (w:World) (hs:s.size<4294967281) (hm:w.cell? ⟨1,0,none⟩=some (.int .i64 m)) :
  Calls Tryd.prog 76 #[.string s,.string sub] w fun e w' => e = .returned (.int .i64 (Lib.index s.data.toList sub.data.toList))∧w' = w:=Any.strings_Index Tryd.lays143 s sub m w hs hm
def Tryd.laysM219_ren:Go.Shelf.Ren:=⟨fun | 219=>94 | 217=>122 | 225=>123 | 224=>124 | 267=>125 | 266=>148 | 314=>149 | n=>n,fun | 9=>9 | 3=>3 | 4=>4 | 5=>5 | 46=>122 | 146=>163 | 51=>123 | n=>n,fun | 1=>1 | n=>n⟩
theorem Tryd.laysM219:Go.Proofs.LaysM.n219 Tryd.prog Tryd.laysM219_ren:={
 mixed:=by kernel_rfl
 f217:=Tryd.func122.trans (congrArg some (by kernel_rfl))
 f219:=Tryd.func94.trans (congrArg some (by kernel_rfl))
 f224:=Tryd.func124.trans (congrArg some (by kernel_rfl))
 f225:=Tryd.func123.trans (congrArg some (by kernel_rfl))
 f266:=Tryd.func148.trans (congrArg some (by kernel_rfl))
 f267:=Tryd.func125.trans (congrArg some (by kernel_rfl))
 f314:=Tryd.func149.trans (congrArg some (by kernel_rfl))
 t3:=Tryd.underlying3
 a3:=Tryd.isAgg3
 z3:=Tryd.sizeOf3
 v3:=Tryd.zeroValue3
 t4:=Tryd.underlying4
 a4:=Tryd.isAgg4
 z4:=Tryd.sizeOf4
 v4:=Tryd.zeroValue4
 t5:=Tryd.underlying5
 a5:=Tryd.isAgg5
 z5:=Tryd.sizeOf5
 v5:=Tryd.zeroValue5
 t9:=Tryd.underlying9
 a9:=Tryd.isAgg9
 z9:=Tryd.sizeOf9
 v9:=Tryd.zeroValue9
 t46:=Tryd.underlying122
 a46:=Tryd.isAgg122
 z46:=Tryd.sizeOf122
 v46:=Tryd.zeroValue122
 t51:=Tryd.underlying123
 a51:=Tryd.isAgg123
 z51:=Tryd.sizeOf123
 v51:=Tryd.zeroValue123
 t146:=Tryd.underlying163
 a146:=Tryd.isAgg163
 z146:=Tryd.sizeOf163
 v146:=Tryd.zeroValue163
 g1:=by kernel_rfl
 i3:=by kernel_rfl
 i4:=by kernel_rfl
 i5:=by kernel_rfl
 i9:=by kernel_rfl
 i46:=by kernel_rfl
 i51:=by kernel_rfl
 i146:=by kernel_rfl
 m1:=by kernel_rfl
 s1_3:=fun w h=>Go.Proofs.cell_of_shapedOpen_int (zero := #[.int .i64 0]) (t:=3) h (of_decide_eq_true (by kernel_rfl)) (by kernel_rfl) rfl (by kernel_rfl) (by kernel_rfl) Tryd.underlying3 }
def Tryd.lays99_ren:Go.Shelf.Ren:=⟨fun | 99=>59 | 206=>92 | n=>n,fun | 9=>9 | 4=>4 | 3=>3 | n=>n,fun | n=>n⟩
theorem Tryd.lays99:Go.Proofs.Lays.n99 Tryd.prog Tryd.lays99_ren:={
 mixed:=by kernel_rfl
 f99:=Tryd.func59.trans (congrArg some (by kernel_rfl))
 f206:=Tryd.func92.trans (congrArg some (by kernel_rfl))
 t3:=Tryd.underlying3
 a3:=Tryd.isAgg3
 z3:=Tryd.sizeOf3
 v3:=Tryd.zeroValue3
 t4:=Tryd.underlying4
 a4:=Tryd.isAgg4
 z4:=Tryd.sizeOf4
 v4:=Tryd.zeroValue4
 t9:=Tryd.underlying9
 a9:=Tryd.isAgg9
 z9:=Tryd.sizeOf9
 v9:=Tryd.zeroValue9 }
open Go.RowKit Go.Lib in
theorem Tryd.strings_HasPrefix (s p:ByteArray) (w:World) :
  Calls Tryd.prog 59 #[.string s,.string p] w fun e w' => e = .returned (.bool (Lib.hasPrefix s.data.toList p.data.toList))∧w' = w:=Any.strings_HasPrefix Tryd.lays99 s p w
end Go.Proofs
end

section
namespace Go.Proofs.YtagokkpnfceidaaDoor
open Go.RowKit
theorem PCall.ofCallsG {P:Program} {f:FuncId} {args:List V} {r:D} {R:Value} (hn:isFn P f=true) (hr:∀ G w,DRel G w r R)
  (h:∀ w us,(∃ C,GlobOk C w)→us.size=args.length→(∀ (j:Nat) x u,args[j]? = some x→us[j]? = some u→∃ C,VRel C w x u)→Calls P f us w fun e w' => e = .returned R∧Below w.heap.size w w'):PCall P f args r :=
 ⟨hn,fun C w us hg hs hrel=>(h w us ⟨C,hg⟩ hs fun j x u hx hu=>⟨_,hrel j x u hx hu⟩).mono fun _ _ ⟨he,hb⟩=>⟨R,he,hr _ _,hb⟩⟩
theorem Qjt {C:Nat→Nat→Prop} {w:World} {l:List UInt8} {u:Value} (h:VRel C w (sV l) u):u = .string ⟨l.toArray⟩:=by cases h; rfl
theorem Qqf {w w' : World} (h:w' = w):Below w.heap.size w w' := by subst h; exact Below.refl _ _
theorem Qly {p:Prop} [Decidable p] {R:Type} {f:Unit→Option R} {r:R} (h:(need p>>=f)=some r):p∧f ()=some r:=by
 unfold need at h
 split at h
 ·exact⟨by assumption,h⟩
 ·cases h
theorem Q0k (l s:List UInt8) (hl:l.length<4294967281):PCall Tryd.prog 94 [sV l,sV s] (.p (iV (Lib.index l s))):=by
 refine PCall.ofCallsG (by kernel_rfl) (fun _ _ =>.p _ _ (.v _ rfl)) fun w us hg hs h=>?_
 obtain⟨a,b,rfl⟩:=us2 hs
 obtain⟨_,h0⟩:=h 0 _ a rfl rfl
 obtain⟨_,h1⟩:=h 1 _ b rfl rfl
 obtain⟨_,hg⟩:=hg
 obtain⟨m,-,hm⟩:=hg.1 1 (by simp[globsL])
 rw[Qjt h0,Qjt h1]
 exact(Tryd.stringslite_Index _ _ m w (by show l.toArray.size<_; simpa using hl) hm).mono fun e w' ⟨he,hw⟩=>⟨he,Qqf hw⟩
end Go.Proofs.YtagokkpnfceidaaDoor
end

section
namespace Go.Proofs.YtagokkpnfceidaaDoor
open Go.RowKit
section
variable {P:Program} {tb:Tbl}
theorem Qun {f:FuncId} {fn:Func} {c:Code} {us:Array Value} {G:Gh} {w:World} {B:Nat×Nat} {Q:Exit→St→Prop} {σ0:St} {R:Ending→World→Prop} (hf:P.funcs[f]? = some fn) (hb:fn.body=some c) (h:T B P fn.ntmps c Q σ0)
  (hR:Rel fn.ntmps G σ0 { tmps:=us++Array.replicate (fn.ntmps-us.size) undef,defers:=[] } w)
  (hQ:∀ e G' σ' a' w', Ex B G w G' w' → Rel fn.ntmps G' σ' a' w' → Q e σ' → e = .panic panCH∧R (.panicked panCH) w'):Calls P f us w R:=by
 refine callsIn_wide.1 (callsIn_of_wp_marks (F:=Fence.wide) (n:=0) hf hb trivial (wpIn_mono (h.out none ⟨w.heap.size,[]⟩ G _ w hR (.none rfl)) ?_))
 rintro e a' w' ⟨G', σ', hE,hR', hF', hq⟩
 have key:∀ (Ds:List Nat) (w' : World),Ds.Nodup→Ex B G w G' w' → Rel fn.ntmps G' σ' a' w' → (∀ b ∈ Ds,w.heap.size≤b∧w'.heap[b]? = some (.deferred (some []))∧b ∉ G'.name∧∀ T ∈ G'.tok,¬ T.has b)→LeavesInM Fence.wide 0 P fn a'.tmps R (Ds.map markOf) (.panicking panCH) w' := by
  intro Ds
  induction Ds with
  | nil=>exact fun w' _ hE hR' _=>(hQ e G' σ' a' w' hE hR' hq).2
  | cons b Ds ih =>
   intro w' hnd hE hR' hD
   obtain⟨d1,d2,d3,d4⟩:=hD b (by simp)
   have hnb:¬ G'.has b:=fun hh=>hh.elim d3 fun⟨T,hT,ht⟩=>d4 T hT ht
   have hk:Kept G'.has G'.com w' (w'.putObj b (.deferred none)):=Qey _ d2 (Qlc d2) hnb
   refine⟨by simp,.inl ⟨b,_,rfl,run_takeDeferred d2,ih _ (List.nodup_cons.1 hnd).2 (hE.kept hk fun i hi=>World.putObj_heap_other (by omega)) (hR'.kept hk) fun i hi=>?_⟩⟩
   obtain⟨k1,k2,k3⟩:=hD i (by simp[hi])
   refine⟨k1,?_,k3⟩
   rw[World.putObj_heap_other (fun(e:i=b)=>(List.nodup_cons.1 hnd).1 (e ▸ hi))]
   exact k2
 obtain⟨Ds,m1,m2,m3⟩:=hF'.marks
 have hl:=key Ds w' m2 hE hR' m3
 rw[List.append_nil] at m1
 rw[← m1] at hl
 obtain rfl:=(hQ e G' σ' a' w' hE hR' hq).1
 exact hl
theorem CallPan.ofT {f:FuncId} {fn:Func} {c:Code} (hf:P.funcs[f]? = some fn) (hb:fn.body=some c) (hn:isFn P f=true) {args:List D} (hN:args.length≤fn.ntmps) {s s' : S}
  (hs:s'.heap.all (fun cs=>cs.all (D.lt s.heap.length s'.live.length))=true)
  (hn' : s'.heap.length=s.heap.length)
  (h:T (s.heap.length,s.live.length) P fn.ntmps c (fun e σ => ∃ τ,Le (s.heap.length,s.live.length) fn.ntmps σ τ ∧ (e = .panic panCH∧EndR s.heap.length s.live.length s' .undef .undef τ.s)) ⟨argsD args 0,s⟩):CallPan P f args s s' := by
 refine⟨hn,fun G w us hI hl hrel=>?_⟩
 have hR:Rel fn.ntmps G ⟨argsD args 0,s⟩ { tmps:=us++Array.replicate (fn.ntmps-us.size) undef,defers:=[] } w:=by
  refine⟨hI,fun t d hd=>?_,by simp; omega⟩
  obtain⟨h1,h2⟩:=Qko args 0 t d hd
  have hlt:t<args.length:=(List.getElem?_eq_some_iff.1 h1).1
  have hlt2:t<us.size:=by omega
  refine⟨by simp; omega,?_⟩
  refine hrel t d _ h1 ?_
  simp only[Array.getD_eq_getD_getElem?,Array.getElem?_append_left hlt2,Array.getElem?_eq_getElem hlt2,Option.getD_some]
 have hln:G.name.length=s.heap.length:=hI.names
 have hlt:G.tok.length=s.live.length:=by rw[← hI.live]; simp
 refine Qun hf hb (T_up h fun e σ' hq=>hq) hR fun e G' σ' a' w' hE hR' hq=>?_
 obtain⟨he,⟨J,hJ0,h4,h5,h6⟩⟩:=hq
 refine⟨he,?_⟩
 unfold selOk at hJ0
 simp only[Bool.and_eq_true] at hJ0
 obtain⟨⟨hJ1,hJ2⟩,hJ3⟩:=hJ0
 have nJ:=Qcr J hJ1
 have bJ:=Qhm hJ2
 have lT:G'.tok.length = σ'.s.live.length:=by have:=congrArg List.length hR'.inv.live; simpa using this
 have h7:=LeH.app h5 (LeH.refl (σ'.s.heap.drop s.heap.length))
 rw[List.take_append_drop] at h7
 have hinv1:=Inv.le (h := σ'.s.heap) (live := σ'.s.live) hR'.inv h7
 have hlen:(s'.heap.map fun cs=>cs.map (D.ren (List.range s.heap.length) J)).length=s.heap.length:=by rw[List.length_map]; exact hn'
 have hlJ:J.length=s'.live.length:=by rw[← h6]; simp
 have hnl:s.heap.length≤G'.name.length:=by rw[hinv1.names]; simp only[List.length_append,hlen]; omega
 have hinv2:Inv (G'.sub (List.range s.heap.length) J) ⟨s'.heap,s'.live⟩ w' := hinv1.sub (I:=List.range s.heap.length) (J:=J) List.nodup_range nJ (fun i hi=>by have:=List.mem_range.1 hi; simp only[List.length_append,hlen]; omega) bJ (by
  have:=Qs7 (s'.heap.map fun cs=>cs.map (D.ren (List.range s.heap.length) J)) (σ'.s.heap.drop s.heap.length) []
  rw[hlen] at this
  exact this) h6 (by rw[List.length_range,hlJ]; exact hs)
 have hst:Stp G w (G'.sub (List.range s.heap.length) J) w' := Qyg hE hln hlt hnl (fun j hj=>by rw[lT]; exact bJ j hj) (by simpa using hJ3)
 exact⟨undef,_,rfl,hst,hinv2,.undef⟩
def CallS (P:Program) (f:FuncId) (args:List D) (s:S) {A C:Type} (t:A→D) (ss:A→S) (sp:C→S):A⊕C→Prop
 | .inl y=>CallOK P f args s (t y) (ss y)
 | .inr y=>CallPan P f args s (sp y)
theorem CallS.a {f:FuncId} {args:List D} {s:S} {A C:Type} {t:A→D} {ss:A→S} {sp:C→S} {y:A} (h:CallS P f args s t ss sp (.inl y)):CallOK P f args s (t y) (ss y):=h
theorem CallS.b {f:FuncId} {args:List D} {s:S} {A C:Type} {t:A→D} {ss:A→S} {sp:C→S} {y:C} (h:CallS P f args s t ss sp (.inr y)):CallPan P f args s (sp y):=h
def retS (tb:Tbl) (rs:List ResultVar) (n m:Nat) {A C:Type} (t:A→D) (ss:A→S) (sp:C→S) (o:A⊕C) (e:Exit) (τ : St):Prop :=
 match e with
 | .panic ch=>∃ y,o = .inr y∧ch=panCH∧EndR n m (sp y) .undef .undef τ.s
 | .normal=>∃ y,o = .inl y∧retR tb rs (EndR n m (ss y) (t y)) .normal τ
 | .ret=>∃ y,o = .inl y∧retR tb rs (EndR n m (ss y) (t y)) .ret τ
 | _=>False
theorem CallS.ofB (hm:P.follows .mixedOrders=true) (hT:TblOk P tb) {f:FuncId} {fn:Func} {c:Code} (lv:List (Nat×List Nat)) (hf:P.funcs[f]? = some fn) (hb:fn.body=some c) (hn:isFn P f=true) {args:List D} (hN:args.length≤fn.ntmps) {s:S} {A C:Type} {t:A→D} {ss:A→S} {sp:C→S} {o:A⊕C}
  (hr:∀ y,(t y).lt s.heap.length (ss y).live.length=true) (hs:∀ y,(ss y).heap.all (fun cs=>cs.all (D.lt s.heap.length (ss y).live.length))=true) (hn1:∀ y,(ss y).heap.length=s.heap.length)
  (hp:∀ y,(sp y).heap.all (fun cs=>cs.all (D.lt s.heap.length (sp y).live.length))=true) (hn2:∀ y,(sp y).heap.length=s.heap.length)
  (h:bwp (s.heap.length,s.live.length) P tb fn.ntmps lv c (fun e σ => ∃ τ,Le (s.heap.length,s.live.length) fn.ntmps σ τ ∧ retS tb fn.results.toList s.heap.length s.live.length t ss sp o e τ) ⟨argsD args 0,s⟩):CallS P f args s t ss sp o:=by
 have hTT:=Qan hm hT c _ _ h
 cases o with
 | inl y =>
  refine CallOK.ofT hT hf hb hn hN (hr y) (hs y) (hn1 y) (T_up hTT fun e σ ⟨τ,h1,h2⟩=>⟨τ,h1,τ,Le.refl _ _ _,?_⟩)
  cases e with
  | normal=>obtain⟨y', e,h3⟩:=h2; cases e; exact h3
  | ret=>obtain⟨y', e,h3⟩:=h2; cases e; exact h3
  | panic ch=>obtain⟨y', e,h3⟩:=h2; cases e
  | _=>exact h2.elim
 | inr y =>
  refine CallPan.ofT hf hb hn hN (hp y) (hn2 y) (T_up hTT fun e σ ⟨τ,h1,h2⟩=>⟨τ,h1,τ,Le.refl _ _ _,?_⟩)
  cases e with
  | normal=>obtain⟨y', e,h3⟩:=h2; cases e
  | ret=>obtain⟨y', e,h3⟩:=h2; cases e
  | panic ch=>obtain⟨y', e,h3,h4⟩:=h2; cases e; exact⟨by rw[h3],h4⟩
  | _=>exact h2.elim
theorem Qcx {A C:Type} {x:A} {y:A⊕C} {d:D} {u:S} {n m:Nat} {t:A→D} {ss:A→S} (h:some (.inl x)=some y) (k:EndR n m (ss x) (t x) d u):∃ z,y = .inl z∧EndR n m (ss z) (t z) d u:=by cases h; exact⟨x,rfl,k⟩
theorem Qbq {A C:Type} {x:C} {y:A⊕C} {u:S} {n m:Nat} {sp:C→S} (h:some (.inr x)=some y) (k:EndR n m (sp x) .undef .undef u):∃ z,y = .inr z∧panCH=panCH∧EndR n m (sp z) .undef .undef u:=by cases h; exact⟨x,rfl,rfl,k⟩
theorem Qaz {A C R:Type} {x:Option (A⊕C)} {f:A⊕C→Option R} {r:R} {g:FuncId} {args:List D} {s:S} (t:A→D) (ss:A→S) (sp:C→S) {K:D→S→Prop} {KP:S→Prop} (h:(x>>=f)=some r)
  (hok:∀ y,x=some (.inl y)→CallOK P g args s (t y) (ss y)) (hpan:∀ y,x=some (.inr y)→CallPan P g args s (sp y))
  (k:∀ y,x=some (.inl y)→f (.inl y)=some r→K (t y) (ss y)) (kp:∀ y,x=some (.inr y)→f (.inr y)=some r→KP (sp y)) :
  (∃ r s', CallC true P g args s r s' ∧ K r s')∨(∃ s', CallPan P g args s s' ∧ KP s'):=by
 cases hx:x with
 | none=>rw[hx] at h; cases h
 | some o =>
  rw[hx] at h
  cases o with
  | inl y=>exact .inl ⟨t y,ss y,(hok y hx).g,k y hx h⟩
  | inr y=>exact .inr ⟨sp y,hpan y hx,kp y hx h⟩
theorem Q0l {A C R:Type} {x:Option (A⊕C)} {f:A⊕C→Option R} {r:R} {X Y:Prop} (h:(x>>=f)=some r) (k:∀ y,x=some (.inl y)→f (.inl y)=some r→X) (kp:∀ y,x=some (.inr y)→f (.inr y)=some r→Y):X∨Y:=by
 cases hx:x with
 | none=>rw[hx] at h; cases h
 | some o =>
  rw[hx] at h
  cases o with
  | inl y=>exact .inl (k y hx h)
  | inr y=>exact .inr (kp y hx h)
end
end Go.Proofs.YtagokkpnfceidaaDoor
end

section
namespace Go.Proofs.YtagokkpnfceidaaDoor
open Go.RowKit
theorem Quo (l s:List UInt8) (hs:s.length<4294967281) (ha:s.all (fun b=>decide (b.toNat<128))=true):PCall Tryd.prog 107 [sV l,sV s] (.p (sV (Lib.trimLeftS l s))):=by
 refine PCall.ofCallsG (by kernel_rfl) (fun _ _ =>.p _ _ (.v _ rfl)) fun w us _ hs' h=>?_
 obtain⟨a,b,rfl⟩:=us2 hs'
 obtain⟨_,h0⟩:=h 0 _ a rfl rfl
 obtain⟨_,h1⟩:=h 1 _ b rfl rfl
 rw[Qjt h0,Qjt h1]
 exact Any.strings_TrimLeft_laid Tryd.lays161 (by kernel_rfl) ⟨l.toArray⟩ ⟨s.toArray⟩ w (by show s.toArray.size<_; simpa using hs) (ascii_of_all ha)
end Go.Proofs.YtagokkpnfceidaaDoor
end

section
namespace Go.Proofs.YtagokkpnfceidaaDoor
open Go.RowKit
def digs (m:Nat):List UInt8 :=
 if m<10 then [UInt8.ofNat (48+m)] else digs (m / 10)++[UInt8.ofNat (48+m % 10)]
termination_by m
decreasing_by omega
theorem Qom (m:Nat) (h:m<10):digs m=[UInt8.ofNat (48+m)]:=by rw[digs,if_pos h]
theorem Qre (m:Nat) (h:10≤m):digs m=digs (m / 10)++[UInt8.ofNat (48+m % 10)]:=by rw[digs,if_neg (by omega)]
theorem Qvy (m:Nat):0<(digs m).length:=by
 by_cases h:m<10
 ·rw[Qom m h]; simp
 ·rw[Qre m (by omega)]; simp
def textL (n:Int):List UInt8:=if n<0 then 45::digs n.natAbs else digs n.natAbs
def isD (c:UInt8):Bool:=48≤c.toNat&&c.toNat≤57
def dv (c:UInt8):Nat:=c.toNat-48
def val (l:List UInt8):Nat:=l.foldl (fun u c=>u*10+dv c) 0
theorem Q0m (l:List UInt8) (c:UInt8):val (l++[c])=val l*10+dv c:=by simp[val]
def numGo (most:Nat):List UInt8→Nat→Option Nat
 | [],u=>some u
 | c::t,u=>if isD c&&decide (u≤(most-dv c) / 10) then numGo most t (u*10+dv c) else none
theorem dv_le {c:UInt8} (h:isD c=true):dv c≤9:=by
 simp[isD] at h; unfold dv; omega
theorem Q1g (l:List UInt8):∀ u,u≤l.foldl (fun u c=>u*10+dv c) u:=by
 induction l with
 | nil=>intro u; exact Nat.le_refl _
 | cons c t ih=>intro u; simp only[List.foldl_cons]; exact Nat.le_trans (by omega) (ih _)
theorem Qqg (most:Nat) (hm:9≤most) (l:List UInt8):∀ u r,u≤most→(numGo most l u=some r↔(l.all isD=true∧l.foldl (fun u c=>u*10+dv c) u=r∧r≤most)):=by
 induction l with
 | nil=>intro u r hu; simp[numGo]; omega
 | cons c t ih =>
  intro u r hu
  simp only[numGo,List.all_cons,List.foldl_cons]
  by_cases hd:isD c=true
  ·have:=dv_le hd
   by_cases hle:u≤(most-dv c) / 10
   ·rw[if_pos (by simp[hd,hle]),ih _ _ (by omega)]; simp[hd]
   ·rw[if_neg (by simp[hle])]
    have hg:=Q1g t (u*10+dv c)
    simp only[reduceCtorEq,false_iff]
    rintro ⟨_,h2,h3⟩
    omega
  ·rw[if_neg (by simp[hd])]; simp[hd]
theorem Qlz (m:Nat):(digs m).all isD=true:=by
 induction m using Nat.strongRecOn with
 | _ m ih =>
  by_cases h:m<10
  ·rw[Qom m h]; simp[isD]; omega
  ·rw[Qre m (by omega),List.all_append,ih _ (by omega)]; simp[isD]; omega
theorem Qvz (m:Nat):val (digs m)=m:=by
 induction m using Nat.strongRecOn with
 | _ m ih =>
  by_cases h:m<10
  ·rw[Qom m h]; simp[val,dv]; omega
  ·rw[Qre m (by omega),Q0m,ih _ (by omega)]; simp[dv]; omega
theorem Qon (m:Nat) (h:1≤m):(digs m).head? ≠ some 48:=by
 induction m using Nat.strongRecOn with
 | _ m ih =>
  by_cases h' : m<10
  ·rw[Qom m h']; simp
   intro e
   have:=congrArg UInt8.toNat e
   simp at this; omega
  ·rw[Qre m (by omega)]
   have hp:=Qvy (m / 10)
   have:=ih (m / 10) (by omega) (by omega)
   cases hd:digs (m / 10) with
   | nil=>rw[hd] at hp; simp at hp
   | cons a b=>rw[hd] at this; simpa using this
def numP (l:List UInt8):Int×Bool :=
 let below:=l.head? == some 45
 let rest:=if below then l.tail else l
 if rest=[]∨(1<rest.length∧rest.head? = some 48)∨(below=true∧rest=[48]) then(0,false)
 else match numGo (if below then 9223372036854775808 else 9223372036854775807) rest 0 with
  | some u=>(if below then -(u:Int) else u,true)
  | none=>(0,false)
def inI64 (n:Int):Prop := -9223372036854775808≤n∧n≤9223372036854775807
theorem Qup (m:Nat):digs m≠[]:=fun h=>by have:=Qvy m; rw[h] at this; simp at this
theorem Qs9 (m:Nat) (c:UInt8) (hc:isD c=false):(digs m).head? ≠ some c:=by
 intro h
 have ha:=Qlz m
 cases hd:digs m with
 | nil=>rw[hd] at h; simp at h
 | cons a b=>rw[hd] at h ha; simp at h ha; rw[h,hc] at ha; simp at ha
theorem Qpp (m:Nat) (h:(digs m).head? = some 48):m=0:=by
 rcases Nat.eq_zero_or_pos m with h0 | h0
 ·exact h0
 ·exact absurd h (Qon m h0)
theorem Qym (n:Int) (hn:inI64 n):numP (textL n)=(n,true):=by
 obtain⟨h0,h1⟩:=hn
 rcases Int.lt_or_le n 0 with h | h
 ·have ht:textL n=45::digs n.natAbs:=by rw[textL,if_pos h]
  rw[ht]
  simp only[numP,List.head?_cons,BEq.rfl,if_true,List.tail_cons]
  have hpos:1≤n.natAbs:=by omega
  rw[if_neg (by
   rintro (h' | ⟨_,h'⟩ | ⟨_,h'⟩)
   ·exact Qup _ h'
   ·exact Qon _ hpos h'
   ·exact Qon _ hpos (by rw[h']; rfl))]
  rw[(Qqg _ (by omega) (digs n.natAbs) 0 n.natAbs (by omega)).2 ⟨Qlz _,Qvz _,by omega⟩]
  simp; omega
 ·have ht:textL n=digs n.natAbs:=by rw[textL,if_neg (by omega)]
  rw[ht]
  have hb:((digs n.natAbs).head? == some 45)=false:=by
   simpa using Qs9 n.natAbs 45 (by decide)
  simp only[numP,hb,Bool.false_eq_true,if_false]
  rw[if_neg (by
   rintro (h' | ⟨h2,h'⟩ | ⟨h2,_⟩)
   ·exact Qup _ h'
   ·rw[Qpp _ h', Qom 0 (by omega)] at h2; simp at h2
   ·cases h2)]
  rw[(Qqg _ (by omega) (digs n.natAbs) 0 n.natAbs (by omega)).2 ⟨Qlz _,Qvz _,by omega⟩]
  simp; omega
end Go.Proofs.YtagokkpnfceidaaDoor
end

section
namespace Go.Proofs.YtagokkpnfceidaaDoor
open Go.RowKit
def numCore (below:Bool) (rest:List UInt8):Int×Bool :=
 if rest=[]∨(1<rest.length∧rest.head? = some 48)∨(below=true∧rest=[48]) then(0,false)
 else match numGo (if below then 9223372036854775808 else 9223372036854775807) rest 0 with
  | some u=>(if below then -(u:Int) else u,true)
  | none=>(0,false)
theorem Qyn (l:List UInt8):numP l=numCore (Lib.hasPrefix l [45]) (Lib.trimPrefix l [45]):=by
 cases l with
 | nil=>simp[numP,numCore,Lib.hasPrefix,Lib.trimPrefix]
 | cons a t =>
  by_cases ha:a=45
  ·subst ha; simp[numP,numCore,Lib.hasPrefix,Lib.trimPrefix]; try rfl
  ·have hb:¬ (45:UInt8)=a:=fun e=>ha e.symm
   simp[numP,numCore,Lib.hasPrefix,Lib.trimPrefix,hb,ha]; try rfl
theorem Qv0 (most:Nat) (rs:ByteArray) (k n:Nat) (h:k<rs.size):numGo most (rs.data.toList.drop k) n =
  if isD rs[k]&&decide (n≤(most-dv rs[k]) / 10) then numGo most (rs.data.toList.drop (k+1)) (n*10+dv rs[k]) else none:=by
 have h' : k<rs.data.toList.length:=by rw[← Qiy]; exact h
 rw[List.drop_eq_getElem_cons h']; rfl
theorem Q1h (u:Nat) (h:u≤9223372036854775808):wrap64 (IntKind.u64.wrap (-(u:Int))) = -(u:Int):=by
 simp[wrap64,IntKind.wrap,IntKind.bits,IntKind.signed]
 omega
theorem Qks (most n:Nat) (h9:9≤most) (c:UInt8):(isD c&&decide (n≤(most-dv c) / 10))=decide ((48:Int)≤(c.toNat:Int)∧(c.toNat:Int)≤57∧(n:Int)≤((most:Int)-((c.toNat:Int)-48)) / 10):=by
 rw[Bool.eq_iff_iff]; simp only[isD,dv,Bool.and_eq_true,decide_eq_true_eq,Nat.le_div_iff_mul_le (show 0<10 by decide),Int.le_ediv_iff_mul_le (show(0:Int)<10 by decide)]
 omega
def badB (below:Bool) (rs:ByteArray):Bool:=rs.toList.isEmpty||(decide (1<(rs.size:Int))&&(if h:0<rs.size then((rs[0].toNat:Int)==48) else false))||(below&&rs.toList==[48])
theorem Qyo (below:Bool) (rs:ByteArray):badB below rs=(rs.data.toList.isEmpty||(decide (1<rs.data.toList.length)&&decide ((rs.data.toList.getD 0 0).toNat=48))||(below&&rs.data.toList==[48])):=by
 unfold badB
 rw[Lib.toList_data]
 congr 2
 by_cases h1:1<(rs.size:Int)
 ·have h0:0<rs.size:=by omega
  rw[dif_pos h0,Qs5,Qiy]
  rw[Qiy] at h1
  have h2:1<rs.data.toList.length:=by omega
  rw[decide_eq_true h1,decide_eq_true h2]
  simp only[Bool.true_and]
  rw[Bool.eq_iff_iff]; simp; omega
 ·have h2:¬ 1<rs.data.toList.length:=by rw[← Qiy]; omega
  rw[decide_eq_false h1,decide_eq_false h2]; simp
theorem Q0n (below:Bool) (rs:ByteArray) (h:badB below rs=true):numCore below rs.data.toList=(0,false):=by
 rw[numCore,if_pos]
 rw[Qyo] at h
 simp only[Bool.or_eq_true,Bool.and_eq_true,decide_eq_true_eq,List.isEmpty_iff,beq_iff_eq] at h
 rcases h with (h | ⟨h1,h2⟩) | h
 ·exact .inl h
 ·refine .inr (.inl ⟨h1,?_⟩)
  cases hl:rs.data.toList with
  | nil=>rw[hl] at h1; simp at h1
  | cons a t=>rw[hl] at h2; simp at h2; simp[← UInt8.toNat_inj,h2]
 ·exact .inr (.inr h)
theorem Qyp (below:Bool) (rs:ByteArray) (h:badB below rs=false):numCore below rs.data.toList =
  match numGo (if below then 9223372036854775808 else 9223372036854775807) rs.data.toList 0 with
  | some u=>(if below then -(u:Int) else u,true)
  | none=>(0,false):=by
 rw[numCore,if_neg]
 rw[Qyo] at h
 rintro (h' | ⟨h1,h2⟩ | ⟨h1,h2⟩)
 ·simp[h'] at h
 ·cases hl:rs.data.toList with
  | nil=>rw[hl] at h1; simp at h1
  | cons a t =>
   rw[hl] at h2; simp at h2; subst h2
   rw[hl] at h h1
   simp at h1; simp[h1] at h
 ·simp[h1,h2] at h
set_option maxHeartbeats 4000000 in
theorem Quq (below:Bool) (s rs:ByteArray) (hs:rs.size≤maxLen) (w:World)
  (hc:∀ w,Calls Tryd.prog 65 #[.string s,.string ⟨#[45]⟩] w fun e w' => e = .returned (.tuple #[.string rs,.bool below])∧w' = w) :
  Calls Tryd.prog 143 #[.string s] w fun e w' => e = .returned (.tuple #[.int .i64 (numCore below rs.data.toList).1,.bool (numCore below rs.data.toList).2])∧w=w' := by
 unfold maxLen at hs
 have HC:=Lib.hid hc; clear hc
 have hb1:=Q0n below rs
 have hb2:=Qyp below rs
 have HB1:=Lib.hid hb1; clear hb1
 have HB2:=Lib.hid hb2; clear hb2
 cases below
 all_goals
  go_enter Tryd.func143,Tryd.ntmps143
  go_upto_region 2 with ((go_at_call 65; refine(HC.out _).mono ?_; rintro e w' ⟨rfl,rfl⟩))
 ·go_cut [33] (fun c wx=>c = .bool (badB false rs)∧wx=w')
  case first =>
   go_wp2_with fail
   all_goals
    go_meet
    refine⟨congrArg Value.bool ?_,rfl⟩
    unfold badB
    first
     | (simp[*]; done)
     | (simp[*]; intros; omega)
     | (rw[show decide (1<(rs.size:Int))=false from decide_eq_false (by omega)]; simp)
  case rest =>
   obtain⟨rfl,rfl⟩:=hcut
   cases hbad:badB false rs
   ·have hr:=HB2.out hbad
    simp only[Bool.false_eq_true,↓reduceIte] at hr
    have HR:=Lib.hid hr; clear hr
    go_wp2_with fail
    go_loop [7,39] (fun u i=>∃ (k n:Nat),k≤rs.size∧i = .int .i64 k∧u = .int .u64 n∧n≤9223372036854775807∧numGo 9223372036854775807 rs.data.toList 0=numGo 9223372036854775807 (rs.data.toList.drop k) n) (fun _ i=>rs.size-(intOf i).toNat)
    case atStart=>exact⟨0,0,by omega,rfl,rfl,by omega,by simp⟩
    case round =>
     obtain⟨k,n,hk,rfl,rfl,hn,hg⟩:=hrel
     have HG:=Lib.hid hg; clear hg
     by_cases hlt:k<rs.size
     ·have hstep:=Qv0 9223372036854775807 rs k n hlt
      have HS:=Lib.hid hstep; clear hstep
      generalize hck:rs[k]=c at HS
      have hck2:rs[k]=c:=hck
      clear hck
      by_cases hgood:(48:Int)≤(c.toNat:Int)∧(c.toNat:Int)≤57∧(n:Int)≤(9223372036854775807-((c.toNat:Int)-48)) / 10
      ·obtain⟨g1,g2,g3⟩:=hgood
       go_wp2
       go_round
       case rel=>exact⟨k+1,n*10+dv c,by omega,by go_num,by congr 1; unfold dv; omega,by unfold dv; omega,by rw[HG.out,HS.out,if_pos (by rw[Qks _ _ (by omega)]; exact decide_eq_true ⟨g1,g2,by omega⟩)]⟩
       case measure=>simp[intOf]; omega
      ·have hbad:numGo 9223372036854775807 rs.data.toList 0=none:=by
        rw[HG.out,HS.out,if_neg]
        rw[Qks _ _ (by omega)]; intro e; exact hgood (of_decide_eq_true e)
       have HB:=Lib.hid hbad; clear hbad
       go_wp2
       all_goals
        go_ret2
        exact⟨Qqd (by rw[HR.out,HB.out]) (by rw[HR.out,HB.out]),rfl⟩
     ·have hge:rs.size≤k:=by omega
      have hfin:numGo 9223372036854775807 rs.data.toList 0=some n:=by
       rw[HG.out,List.drop_of_length_le (by rw[← Qiy]; exact hge)]; rfl
      have HB:=Lib.hid hfin; clear hfin
      go_wp2
      go_ret2
      exact⟨Qqd (by rw[HR.out,HB.out]) (by rw[HR.out,HB.out]),rfl⟩
   ·have HR:=Lib.hid (HB1.out hbad)
    go_wp2_with fail
    go_ret2
    exact⟨Qqd (by rw[HR.out]) (by rw[HR.out]),rfl⟩
 ·go_cut [33] (fun c wx=>c = .bool (badB true rs)∧wx=w')
  case first =>
   go_wp2_with fail
   all_goals
    go_meet
    refine⟨congrArg Value.bool ?_,rfl⟩
    unfold badB
    first
     | (simp[*]; done)
     | (simp[*]; intros; omega)
     | (rw[show decide (1<(rs.size:Int))=false from decide_eq_false (by omega)]; simp)
  case rest =>
   obtain⟨rfl,rfl⟩:=hcut
   cases hbad:badB true rs
   ·have hr:=HB2.out hbad
    simp only[↓reduceIte] at hr
    have HR:=Lib.hid hr; clear hr
    go_wp2_with fail
    go_loop [7,39] (fun u i=>∃ (k n:Nat),k≤rs.size∧i = .int .i64 k∧u = .int .u64 n∧n≤9223372036854775808∧numGo 9223372036854775808 rs.data.toList 0=numGo 9223372036854775808 (rs.data.toList.drop k) n) (fun _ i=>rs.size-(intOf i).toNat)
    case atStart=>exact⟨0,0,by omega,rfl,rfl,by omega,by simp⟩
    case round =>
     obtain⟨k,n,hk,rfl,rfl,hn,hg⟩:=hrel
     have HG:=Lib.hid hg; clear hg
     by_cases hlt:k<rs.size
     ·have hstep:=Qv0 9223372036854775808 rs k n hlt
      have HS:=Lib.hid hstep; clear hstep
      generalize hck:rs[k]=c at HS
      have hck2:rs[k]=c:=hck
      clear hck
      by_cases hgood:(48:Int)≤(c.toNat:Int)∧(c.toNat:Int)≤57∧(n:Int)≤(9223372036854775808-((c.toNat:Int)-48)) / 10
      ·obtain⟨g1,g2,g3⟩:=hgood
       go_wp2
       go_round
       case rel=>exact⟨k+1,n*10+dv c,by omega,by go_num,by congr 1; unfold dv; omega,by unfold dv; omega,by rw[HG.out,HS.out,if_pos (by rw[Qks _ _ (by omega)]; exact decide_eq_true ⟨g1,g2,by omega⟩)]⟩
       case measure=>simp[intOf]; omega
      ·have hbad:numGo 9223372036854775808 rs.data.toList 0=none:=by
        rw[HG.out,HS.out,if_neg]
        rw[Qks _ _ (by omega)]; intro e; exact hgood (of_decide_eq_true e)
       have HB:=Lib.hid hbad; clear hbad
       go_wp2
       all_goals
        go_ret2
        exact⟨Qqd (by rw[HR.out,HB.out]) (by rw[HR.out,HB.out]),rfl⟩
     ·have hge:rs.size≤k:=by omega
      have hfin:numGo 9223372036854775808 rs.data.toList 0=some n:=by
       rw[HG.out,List.drop_of_length_le (by rw[← Qiy]; exact hge)]; rfl
      have HB:=Lib.hid hfin; clear hfin
      go_wp2
      go_ret2
      exact⟨Qqd ((Q1h n hn).trans (by rw[HR.out,HB.out])) (by rw[HR.out,HB.out]),rfl⟩
   ·have HR:=Lib.hid (HB1.out hbad)
    go_wp2_with fail
    go_ret2
    exact⟨Qqd (by rw[HR.out]) (by rw[HR.out]),rfl⟩
theorem Qxe (s:ByteArray) (hs:s.size≤maxLen) (w:World) :
  Calls Tryd.prog 143 #[.string s] w fun e w' => e = .returned (.tuple #[.int .i64 (numP s.data.toList).1,.bool (numP s.data.toList).2])∧w=w' := by
 have h:=Quq (Lib.hasPrefix s.data.toList [45]) s ⟨(Lib.trimPrefix s.data.toList [45]).toArray⟩ (by
  have:=Lib.trimPrefix_le s.data.toList [45]
  rw[Qiy] at hs ⊢; simp only[]; omega) w (fun w=>Tryd.strings_CutPrefix s ⟨#[45]⟩ w)
 rw[Qyn]
 exact h
end Go.Proofs.YtagokkpnfceidaaDoor
end

section
namespace Go.Proofs.YtagokkpnfceidaaDoor
open Go.RowKit
theorem Qyq (l:List UInt8) (hl:l.length≤9223372036854775807):PCall Tryd.prog 143 [sV l] (.tup [.p (iV (numP l).1),.p (bV (numP l).2)]):=by
 refine PCall.ofCallsG (R :=.tuple #[.int .i64 (numP l).1,.bool (numP l).2]) (by kernel_rfl) (fun _ _=>dtup2 rfl rfl) fun w us _ hs h=>?_
 obtain⟨a,rfl⟩:=us1 hs
 obtain⟨_,h0'⟩:=h 0 _ a rfl rfl
 rw[Qjt h0']
 refine(Qxe ⟨l.toArray⟩ (by show l.toArray.size≤9223372036854775807; simpa using hl) w).mono fun e w' h=>?_
 exact⟨h.1,Qqf h.2.symm⟩
end Go.Proofs.YtagokkpnfceidaaDoor
end

section
namespace Go.Proofs.YtagokkpnfceidaaDoor
open Go.RowKit
theorem Qyr (p:Value) (w:World) :
  Calls Tryd.prog 85 #[p,.bool true] w fun e w' => e = .returned (.tuple #[])∧w' = w:=by
 go_enter Tryd.func85,Tryd.ntmps85
 go_wp2
 exact bodyPost_end (results_none rfl _ _ _) rfl ⟨rfl,rfl⟩
theorem Qxf (p:Value) (w:World) :
  Calls Tryd.prog 85 #[p,.bool false] w fun e w' => e = .panicked panCH∧w' = w:=by
 go_enter Tryd.func85,Tryd.ntmps85
 go_wp2
 exact⟨rfl,rfl,rfl⟩
theorem Qqh {E:Value→Ending} {r:D} {R:Value} (b:Bool) (x:D) (s:S) (hr:∀ G w,DRel G w r R)
  (h:∀ p w,Calls Tryd.prog 85 #[p,.bool b] w fun e w' => e=E R∧w' = w):CallX E Tryd.prog 85 [x,.p (bV b)] s r s:=by
 refine⟨by kernel_rfl,fun G w us hI hs hrel=>?_⟩
 obtain⟨p,q,rfl⟩:=us2 hs
 have h1:=hrel 1 _ q rfl rfl
 have hq:q = .bool b:=by cases h1 with | p _ _ h1=>cases h1; rfl
 subst hq
 exact(h p w).mono fun e w' ⟨he,hw⟩=>by
  subst hw
  exact⟨R,G,he,.refl G _,hI,hr G _⟩
def mustO (b:Bool):Unit⊕Unit:=if b=true then .inl () else .inr ()
theorem Q1i (b:Bool) (x:D) (s:S) (t:Unit→D) (ht:t () = .tup []) (o:Unit⊕Unit) (ho:mustO b=o):CallS Tryd.prog 85 [x,.p (bV b)] s t (fun _=>s) (fun _=>s) o:=by
 subst ho
 cases b with
 | true =>
  show CallOK _ _ _ _ (t ()) _
  rw[ht]
  exact Qqh true x s (fun G w =>.tup [] #[] rfl (fun j c u hc=>by simp at hc)) Qyr
 | false =>
  exact Qqh false x s (R:=undef) (fun G w =>.undef) Qxf
end Go.Proofs.YtagokkpnfceidaaDoor
end
