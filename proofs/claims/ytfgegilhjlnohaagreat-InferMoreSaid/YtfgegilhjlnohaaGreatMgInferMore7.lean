/- A part of the proof. -/
import Derived.Test.YtfgegilhjlnohaaGreatMgInferMore6
import Derived.Shelf.Small.Strs
import Derived.Shelf.Strings.Search1
import Derived.Shelf.Strings.Search2
import Derived.Shelf.Strings.Search3
import Derived.Shelf.LaysM
import Derived.Shelf.Strings.Shaped
import Derived.Shelf.Strings.Prefix
import Derived.Shelf.Slices.CompactS
import Derived.Ground.Names2Prog
import Derived.Shelf.Slices.Delete
import Derived.Shelf.Slices.In.SortNone
import Derived.Test.YtfgegilhjlnohaaGreatProg
import Derived.Shelf.Slices.In.SortAlone
import Derived.Shelf.Slices.In.CompactS
import Derived.Sort.EveryDepth
import Derived.Lib.Strings
import Derived.Below
import Derived.Laws.Bits
import Derived.Deep.DeepCutAuto
import Derived.Deep.CutRange

noncomputable section
namespace Go.Proofs
open Go.Shelf
def Tryz.lays217_ren:Go.Shelf.Ren:=⟨fun | 217=>174 | 266=>183 | n=>n,fun | 9=>9 | 5=>5 | 3=>3 | n=>n,fun | n=>n⟩
theorem Tryz.lays217:Go.Proofs.Lays.n217 Tryz.prog Tryz.lays217_ren:={
 mixed:=by kernel_rfl
 f217:=Tryz.func174.trans (congrArg some (by kernel_rfl))
 f266:=Tryz.func183.trans (congrArg some (by kernel_rfl))
 t3:=Tryz.underlying3
 a3:=Tryz.isAgg3
 z3:=Tryz.sizeOf3
 v3:=Tryz.zeroValue3
 t5:=Tryz.underlying5
 a5:=Tryz.isAgg5
 z5:=Tryz.sizeOf5
 v5:=Tryz.zeroValue5
 t9:=Tryz.underlying9
 a9:=Tryz.isAgg9
 z9:=Tryz.sizeOf9
 v9:=Tryz.zeroValue9 }
open Go.RowKit Go.Lib in
theorem Tryz.stringslite_IndexByte(s:ByteArray)(c:Int)(w:World) :
  Calls Tryz.prog 174 #[.string s,.int .u8 c] w fun e w' => e = .returned (.int .i64 (Lib.indexByte s.data.toList c.toNat.toUInt8))∧w' = w:=Any.stringslite_IndexByte Tryz.lays217 s c w
def Tryz.lays219_ren:Go.Shelf.Ren:=⟨fun | 219=>167 | 217=>174 | 225=>175 | 224=>176 | 267=>177 | 266=>183 | 314=>184 | n=>n,fun | 9=>9 | 3=>3 | 4=>4 | 5=>5 | 46=>43 | 146=>210 | 51=>135 | n=>n,fun | 1=>0 | n=>n⟩
theorem Tryz.lays219:Go.Proofs.Lays.n219 Tryz.prog Tryz.lays219_ren:={
 mixed:=by kernel_rfl
 f217:=Tryz.func174.trans (congrArg some (by kernel_rfl))
 f219:=Tryz.func167.trans (congrArg some (by kernel_rfl))
 f224:=Tryz.func176.trans (congrArg some (by kernel_rfl))
 f225:=Tryz.func175.trans (congrArg some (by kernel_rfl))
 f266:=Tryz.func183.trans (congrArg some (by kernel_rfl))
 f267:=Tryz.func177.trans (congrArg some (by kernel_rfl))
 f314:=Tryz.func184.trans (congrArg some (by kernel_rfl))
 t3:=Tryz.underlying3
 a3:=Tryz.isAgg3
 z3:=Tryz.sizeOf3
 v3:=Tryz.zeroValue3
 t4:=Tryz.underlying4
 a4:=Tryz.isAgg4
 z4:=Tryz.sizeOf4
 v4:=Tryz.zeroValue4
 t5:=Tryz.underlying5
 a5:=Tryz.isAgg5
 z5:=Tryz.sizeOf5
 v5:=Tryz.zeroValue5
 t9:=Tryz.underlying9
 a9:=Tryz.isAgg9
 z9:=Tryz.sizeOf9
 v9:=Tryz.zeroValue9
 t46:=Tryz.underlying43
 a46:=Tryz.isAgg43
 z46:=Tryz.sizeOf43
 v46:=Tryz.zeroValue43
 t51:=Tryz.underlying135
 a51:=Tryz.isAgg135
 z51:=Tryz.sizeOf135
 v51:=Tryz.zeroValue135
 t146:=Tryz.underlying210
 a146:=Tryz.isAgg210
 z146:=Tryz.sizeOf210
 v146:=Tryz.zeroValue210
 g1:=by kernel_rfl }
open Go.RowKit Go.Lib in
theorem Tryz.stringslite_Index(s sub:ByteArray)(m:Int)(w:World)(hs:s.size<4294967281)(hm:w.cell? ⟨0,0,none⟩=some (.int .i64 m)) :
  Calls Tryz.prog 167 #[.string s,.string sub] w fun e w' => e = .returned (.int .i64 (Lib.index s.data.toList sub.data.toList))∧w' = w:=Any.stringslite_Index Tryz.lays219 s sub m w hs hm
def Tryz.laysM219_ren:Go.Shelf.Ren:=⟨fun | 219=>167 | 217=>174 | 225=>175 | 224=>176 | 267=>177 | 266=>183 | 314=>184 | n=>n,fun | 9=>9 | 3=>3 | 4=>4 | 5=>5 | 46=>43 | 146=>210 | 51=>135 | n=>n,fun | 1=>0 | n=>n⟩
theorem Tryz.laysM219:Go.Proofs.LaysM.n219 Tryz.prog Tryz.laysM219_ren:={
 mixed:=by kernel_rfl
 f217:=Tryz.func174.trans (congrArg some (by kernel_rfl))
 f219:=Tryz.func167.trans (congrArg some (by kernel_rfl))
 f224:=Tryz.func176.trans (congrArg some (by kernel_rfl))
 f225:=Tryz.func175.trans (congrArg some (by kernel_rfl))
 f266:=Tryz.func183.trans (congrArg some (by kernel_rfl))
 f267:=Tryz.func177.trans (congrArg some (by kernel_rfl))
 f314:=Tryz.func184.trans (congrArg some (by kernel_rfl))
 t3:=Tryz.underlying3
 a3:=Tryz.isAgg3
 z3:=Tryz.sizeOf3
 v3:=Tryz.zeroValue3
 t4:=Tryz.underlying4
 a4:=Tryz.isAgg4
 z4:=Tryz.sizeOf4
 v4:=Tryz.zeroValue4
 t5:=Tryz.underlying5
 a5:=Tryz.isAgg5
 z5:=Tryz.sizeOf5
 v5:=Tryz.zeroValue5
 t9:=Tryz.underlying9
 a9:=Tryz.isAgg9
 z9:=Tryz.sizeOf9
 v9:=Tryz.zeroValue9
 t46:=Tryz.underlying43
 a46:=Tryz.isAgg43
 z46:=Tryz.sizeOf43
 v46:=Tryz.zeroValue43
 t51:=Tryz.underlying135
 a51:=Tryz.isAgg135
 z51:=Tryz.sizeOf135
 v51:=Tryz.zeroValue135
 t146:=Tryz.underlying210
 a146:=Tryz.isAgg210
 z146:=Tryz.sizeOf210
 v146:=Tryz.zeroValue210
 g1:=by kernel_rfl
 i3:=by kernel_rfl
 i4:=by kernel_rfl
 i5:=by kernel_rfl
 i9:=by kernel_rfl
 i46:=by kernel_rfl
 i51:=by kernel_rfl
 i146:=by kernel_rfl
 m1:=by kernel_rfl
 s1_3:=fun w h=>Go.Proofs.cell_of_shapedOpen_int (zero := #[.int .i64 0]) (t:=3) h (of_decide_eq_true (by kernel_rfl)) (by kernel_rfl) rfl (by kernel_rfl) (by kernel_rfl) Tryz.underlying3 }
def Tryz.lays194_ren:Go.Shelf.Ren:=⟨fun | 194=>100 | n=>n,fun | 31=>29 | 9=>9 | 3=>3 | 4=>4 | 0=>0 | n=>n,fun | n=>n⟩
theorem Tryz.lays194:Go.Proofs.Lays.n194 Tryz.prog Tryz.lays194_ren:={
 mixed:=by kernel_rfl
 f194:=Tryz.func100.trans (congrArg some (by kernel_rfl))
 t0:=Tryz.underlying0
 a0:=Tryz.isAgg0
 z0:=Tryz.sizeOf0
 v0:=Tryz.zeroValue0
 t3:=Tryz.underlying3
 a3:=Tryz.isAgg3
 z3:=Tryz.sizeOf3
 v3:=Tryz.zeroValue3
 t4:=Tryz.underlying4
 a4:=Tryz.isAgg4
 z4:=Tryz.sizeOf4
 v4:=Tryz.zeroValue4
 t9:=Tryz.underlying9
 a9:=Tryz.isAgg9
 z9:=Tryz.sizeOf9
 v9:=Tryz.zeroValue9
 t31:=Tryz.underlying29
 a31:=Tryz.isAgg29
 z31:=Tryz.sizeOf29
 v31:=Tryz.zeroValue29 }
def Tryz.lays190_ren:Go.Shelf.Ren:=⟨fun | 190=>48 | 125=>82 | 258=>81 | 128=>113 | 129=>114 | 302=>104 | 303=>105 | 304=>106 | 305=>107 | 306=>108 | 307=>109 | 308=>110 | 309=>111 | 310=>112 | 333=>133 | 329=>134 | 330=>135 | 334=>136 | 335=>137 | 336=>138 | 344=>157 | n=>n,fun | 31=>29 | 9=>9 | 3=>3 | 46=>43 | 0=>0 | 51=>135 | 53=>137 | 4=>4 | 183=>128 | 182=>127 | 131=>132 | 5=>5 | 218=>162 | 222=>166 | 228=>191 | 229=>192 | n=>n,fun | n=>n⟩
theorem Tryz.lays190:Go.Proofs.Lays.n190 Tryz.prog Tryz.lays190_ren:={
 mixed:=by kernel_rfl
 f125:=Tryz.func82.trans (congrArg some (by kernel_rfl))
 f128:=Tryz.func113.trans (congrArg some (by kernel_rfl))
 f129:=Tryz.func114.trans (congrArg some (by kernel_rfl))
 f190:=Tryz.func48.trans (congrArg some (by kernel_rfl))
 f258:=Tryz.func81.trans (congrArg some (by kernel_rfl))
 f302:=Tryz.func104.trans (congrArg some (by kernel_rfl))
 f303:=Tryz.func105.trans (congrArg some (by kernel_rfl))
 f304:=Tryz.func106.trans (congrArg some (by kernel_rfl))
 f305:=Tryz.func107.trans (congrArg some (by kernel_rfl))
 f306:=Tryz.func108.trans (congrArg some (by kernel_rfl))
 f307:=Tryz.func109.trans (congrArg some (by kernel_rfl))
 f308:=Tryz.func110.trans (congrArg some (by kernel_rfl))
 f309:=Tryz.func111.trans (congrArg some (by kernel_rfl))
 f310:=Tryz.func112.trans (congrArg some (by kernel_rfl))
 f329:=Tryz.func134.trans (congrArg some (by kernel_rfl))
 f330:=Tryz.func135.trans (congrArg some (by kernel_rfl))
 f333:=Tryz.func133.trans (congrArg some (by kernel_rfl))
 f334:=Tryz.func136.trans (congrArg some (by kernel_rfl))
 f335:=Tryz.func137.trans (congrArg some (by kernel_rfl))
 f336:=Tryz.func138.trans (congrArg some (by kernel_rfl))
 f344:=Tryz.func157.trans (congrArg some (by kernel_rfl))
 t0:=Tryz.underlying0
 a0:=Tryz.isAgg0
 z0:=Tryz.sizeOf0
 v0:=Tryz.zeroValue0
 t3:=Tryz.underlying3
 a3:=Tryz.isAgg3
 z3:=Tryz.sizeOf3
 v3:=Tryz.zeroValue3
 t4:=Tryz.underlying4
 a4:=Tryz.isAgg4
 z4:=Tryz.sizeOf4
 v4:=Tryz.zeroValue4
 t5:=Tryz.underlying5
 a5:=Tryz.isAgg5
 z5:=Tryz.sizeOf5
 v5:=Tryz.zeroValue5
 t9:=Tryz.underlying9
 a9:=Tryz.isAgg9
 z9:=Tryz.sizeOf9
 v9:=Tryz.zeroValue9
 t31:=Tryz.underlying29
 a31:=Tryz.isAgg29
 z31:=Tryz.sizeOf29
 v31:=Tryz.zeroValue29
 t46:=Tryz.underlying43
 a46:=Tryz.isAgg43
 z46:=Tryz.sizeOf43
 v46:=Tryz.zeroValue43
 t51:=Tryz.underlying135
 a51:=Tryz.isAgg135
 z51:=Tryz.sizeOf135
 v51:=Tryz.zeroValue135
 t53:=Tryz.underlying137
 a53:=Tryz.isAgg137
 z53:=Tryz.sizeOf137
 v53:=Tryz.zeroValue137
 t131:=Tryz.underlying132
 a131:=Tryz.isAgg132
 z131:=Tryz.sizeOf132
 v131:=Tryz.zeroValue132
 t182:=Tryz.underlying127
 a182:=Tryz.isAgg127
 z182:=Tryz.sizeOf127
 v182:=Tryz.zeroValue127
 t183:=Tryz.underlying128
 a183:=Tryz.isAgg128
 z183:=Tryz.sizeOf128
 v183:=Tryz.zeroValue128
 t218:=Tryz.underlying162
 a218:=Tryz.isAgg162
 z218:=Tryz.sizeOf162
 v218:=Tryz.zeroValue162
 t222:=Tryz.underlying166
 a222:=Tryz.isAgg166
 z222:=Tryz.sizeOf166
 v222:=Tryz.zeroValue166
 t228:=Tryz.underlying191
 a228:=Tryz.isAgg191
 z228:=Tryz.sizeOf191
 v228:=Tryz.zeroValue191
 t229:=Tryz.underlying192
 a229:=Tryz.isAgg192
 z229:=Tryz.sizeOf192
 v229:=Tryz.zeroValue192 }
end Go.Proofs
end

noncomputable section
namespace Go.Proofs.YtfgegilhjlnohaaGreat
open Go.RowKit
set_option linter.unusedSimpArgs false
set_option linter.unusedVariables false
theorem PCall.ofCallsG{P:Program}{f:FuncId}{args:List V}{r:D}{R:Value}(hn:isFn P f=true)(hr:∀ G w,DRel G w r R)
  (h:∀ w us,(∃ C,GlobOk C w)→us.size=args.length→(∀ (j:Nat) x u,args[j]? = some x→us[j]? = some u→∃ C,VRel C w x u)→Calls P f us w fun e w' => e = .returned R∧Below w.heap.size w w'):PCall P f args r :=
 ⟨hn,fun C w us hg hs hrel=>(h w us ⟨C,hg⟩ hs fun j x u hx hu=>⟨_,hrel j x u hx hu⟩).mono fun _ _ ⟨he,hb⟩=>⟨R,he,hr _ _,hb⟩⟩
theorem Qwc{C:Nat→Nat→Prop}{w:World}{l:List UInt8}{u:Value}(h:VRel C w (sV l) u):u = .string ⟨l.toArray⟩:=by cases h; rfl
theorem Qabb{C:Nat→Nat→Prop}{w:World}{k:IntKind}{n:Int}{u:Value}(h:VRel C w (.v (.int k n)) u):u = .int k n:=by cases h; rfl
theorem Qxt{w w' : World}(h:w' = w):Below w.heap.size w w' := by subst h; exact Below.refl _ _
theorem Qabc{p:Prop}[Decidable p]{R:Type}{f:Unit→Option R}{r:R}(h:(need p>>=f)=some r):p∧f ()=some r:=by
 unfold need at h;split at h
 ·exact⟨by assumption,h⟩
 ·cases h
theorem Qabd(l:List UInt8)(c:Int):PCall Tryz.prog 174 [sV l,nV .u8 c] (.p (iV (Lib.indexByte l c.toNat.toUInt8))):=by
 refine PCall.ofCallsG (by kernel_rfl) (fun _ _ =>.p _ _ (.v _ rfl)) fun w us _ hs h=>?_
 obtain⟨a,b,rfl⟩:=us2 hs;obtain⟨_,h0⟩:=h 0 _ a rfl rfl;obtain⟨_,h1⟩:=h 1 _ b rfl rfl;rw[Qwc h0,Qabb h1];exact(Tryz.stringslite_IndexByte _ c w).mono fun e w' ⟨he,hw⟩=>⟨he,Qxt hw⟩
theorem Qam1(l s:List UInt8)(hl:l.length<4294967281):PCall Tryz.prog 167 [sV l,sV s] (.p (iV (Lib.index l s))):=by
 refine PCall.ofCallsG (by kernel_rfl) (fun _ _ =>.p _ _ (.v _ rfl)) fun w us hg hs h=>?_
 obtain⟨a,b,rfl⟩:=us2 hs;obtain⟨_,h0⟩:=h 0 _ a rfl rfl;obtain⟨_,h1⟩:=h 1 _ b rfl rfl;obtain⟨_,hg⟩:=hg;obtain⟨m,-,hm⟩:=hg.1 0 (by simp[Qait]);rw[Qwc h0,Qwc h1];exact(Tryz.stringslite_Index _ _ m w (by show l.toArray.size<_; simpa using hl) hm).mono fun e w' ⟨he,hw⟩=>⟨he,Qxt hw⟩
end Go.Proofs.YtfgegilhjlnohaaGreat
end
noncomputable section
namespace Go.Proofs.YtfgegilhjlnohaaGreat
open Go.RowKit Go.Sort Go.Shelf
theorem Qabe(s:List UInt8):encStr s=Qd6 s:=rfl
theorem SRow.holds{w:World}{b e:Nat}{us:Array Value}{ss:List (List UInt8)}(h:SRow w b e us ss):Holds encStr w b 0 ss.toArray:=fun j hj=>by
 have hj:j<ss.length:=by simpa using hj
 have h1:=h.cell j ss[j] (List.getElem?_eq_getElem hj);have hus:j<us.size:=by have:=h.len; omega
 have e1:ss.toArray[j]! = ss[j]:=by simp[hj]
 rw[Nat.zero_add,e1,Qabe];refine⟨?_,?_⟩
 ·simp[World.cell?,h.row,h1]
 ·simp[World.frozen?,h.row]
theorem Qyd{w:World}{b e n:Nat}{us:Array Value}{ss:List (List UInt8)}(h:SRow w b e us ss)(hn:us.size=n)(q:Nat)(d:Array (List UInt8))(hd:d.size≤us.size)(ss' : List (List UInt8))(hs:∀ (i:Nat) s,ss'[i]? = some s→d[i]? = some s)(os:Array Obj) :
  Qafv w (grow (putRow encStr (Sort.ahead w q) b 0 d) os) b e n ss' := by
 have hbl:b<w.heap.size:=(Array.getElem?_eq_some_iff.1 h.row).1;have hlen:ss'.length≤d.size:=by
  by_cases hz:ss'.length=0
  ·omega
  ·have:=hs (ss'.length-1) ss'[ss'.length-1] (List.getElem?_eq_getElem (by omega));have:=(Array.getElem?_eq_some_iff.1 this).1;omega
 have hsz:(putRow encStr (Sort.ahead w q) b 0 d).heap.size=w.heap.size:=by simp[putRow,mapBlock,Sort.ahead]
 have hget:∀ k,k<w.heap.size→(grow (putRow encStr (Sort.ahead w q) b 0 d) os).heap[k]? = (putRow encStr (Sort.ahead w q) b 0 d).heap[k]? := fun k hk=>by
  show((putRow encStr (Sort.ahead w q) b 0 d).heap++os)[k]? = _;rw[Array.getElem?_append_left (by omega)]
 refine⟨rfl,rfl,rfl,?_,fun k hk hne=>?_,putCells encStr 0 d us,⟨?_,?_,fun i s hi=>?_⟩,?_⟩
 ·show w.heap.size≤((putRow encStr (Sort.ahead w q) b 0 d).heap++os).size;rw[Array.size_append]; omega
 ·rw[hget k hk];simp[putRow,mapBlock,Sort.ahead,Array.getElem?_modify,Ne.symm hne]
 ·rw[hget b hbl];simp[putRow,mapBlock,Sort.ahead,Array.getElem?_modify,h.row,onCells]
 ·simp[putCells]; omega
 ·have hd2:=hs i s hi;have hil:=(Array.getElem?_eq_some_iff.1 hd2).1;have e1:d[i]=s:=(Array.getElem?_eq_some_iff.1 hd2).2;simp only[putCells,Array.getElem?_mapIdx];rw[Array.getElem?_eq_getElem (show i<us.size by omega)];simp[hil,Qabe,e1]
 ·simp[putCells,hn]
theorem Qao2{P:Program}{ρ : Ren}(L:Lays.n190 P ρ)(hfn:isFn P (ρ.f 190)=true)(ss:List (List UInt8))(hl:ss.length<4611686018427387904):FnT P (ρ.f 190) #[] false ss (ss.mergeSort fun x y=>decide (x≤y)):=by
 refine⟨hfn,by simp,fun _=>by simp,fun w a cap h1 h2=>⟨fun h0=>?_,fun b us e ha hus hc hS=>?_⟩⟩
 ·exact(calls_of_every_depth fun D=>AnyS.slices_Sort_string_none_alone L D a 0 w).mono fun en w' ⟨he,hw⟩=>⟨he,by rw[hw]; exact .refl _ _⟩
 ·subst ha;refine(calls_of_every_depth fun D=>AnyS.slices_Sort_string_alone L D b 0 cap ss w hS.holds (Array.getElem?_eq_some_iff.1 hS.row).1 hl).mono fun en w' ⟨he,n,os,hw⟩=>⟨he,?_⟩
  rw[hw];exact Qyd hS hus n _ (by simp; exact hS.len) _ (fun i s hi=>by simpa using hi) os
theorem Q08(zs:List (List UInt8)):(Lib.compact zs).length≤zs.length:=by
 unfold Lib.compact Lib.compactUpTo;rw[List.length_map];have:=List.length_filter_le (Lib.keeps zs.toArray) (List.range zs.length)
 rwa [List.length_range] at this
theorem Qahr{P:Program}{ρ : Ren}(L:Lays.n194 P ρ)(hfn:isFn P (ρ.f 194)=true)(ss:List (List UInt8))(hl:ss.length<4611686018427387904):FnT P (ρ.f 194) #[] true ss (Lib.compact ss):=by
 refine⟨hfn,Q08 ss,fun h=>(nomatch h),fun w a cap h1 h2=>⟨fun h0=>?_,fun b us e ha hus hc hS=>?_⟩⟩
 ·exact(calls_of_every_depth fun D=>AnyS.slices_Compact_string_empty_in L D a 0 w).mono fun en w' ⟨he,hw⟩=>⟨he,by rw[hw]; exact .refl _ _⟩
 ·subst ha;refine(calls_of_every_depth fun D=>AnyS.slices_Compact_string_in L D b 0 cap ss w hS.holds (by omega) h1).mono fun en w' ⟨he,q,hw⟩=>⟨he,?_⟩
  have hcl:=Q08 ss;have:=Qyd hS hus q (Lib.compact ss++List.replicate (ss.length-(Lib.compact ss).length) []).toArray (by simp; have:=hS.len; omega) (Lib.compact ss) (fun i s hi=>by
   have:=(List.getElem?_eq_some_iff.1 hi).1;rw[List.getElem?_toArray,List.getElem?_append_left this]; exact hi) #[]
  rw[hw];simpa using this
end Go.Proofs.YtfgegilhjlnohaaGreat
end

noncomputable section
namespace Go.Proofs.YtfgegilhjlnohaaGreat
open Go.RowKit
set_option linter.unusedSimpArgs false
set_option linter.unusedVariables false
section
variable {P:Program} {tb:Tbl}
theorem Qam2{G G' : Gh}{w w' : World}{n m:Nat}{I J:List Nat}(hE:Ex (n,m) G w G' w')(hn:G.name.length=n)(hm:G.tok.length=m)(hI:∀ i ∈ I,i<G'.name.length)(hJ:∀ j ∈ J,j<G'.tok.length)(hdI:I.take n=List.range n)(hid:J.take m=List.range m):Stp G w (G'.sub I J) w' := by
 have low:∀ {K:List Nat} {m t:Nat},K.take m=List.range m→t<m→K[t]? = some t:=fun {K m t} h hl=>by
  have:=congrArg (·[t]?) h;simp only[List.getElem?_take,if_pos hl,Qwb hl] at this;exact this
 refine⟨⟨hE.ext.os,hE.ext.tape,hE.ext.output,hE.ext.size,hE.ext.com,hE.ext.old,hE.ext.new,fun b hb=>?_,hE.ext.mono,hE.ext.shp⟩,fun nm b hb=>?_,fun t T ht=>?_⟩
 ·rcases hb with hb | ⟨T,hT,hb⟩
  ·exact hE.ext.mine b (.inl (Qf6 hI hb))
  ·exact hE.ext.mine b (.inr ⟨T,Qf6 hJ hT,hb⟩)
 ·have hl:nm<n:=by rw[← hn]; exact(List.getElem?_eq_some_iff.1 hb).1
  have hk:=low hdI hl;rw[Qpt hk (hI nm (List.mem_of_getElem? hk))];exact hE.name nm b hl hb
 ·have hl:t<m:=by rw[← hm]; exact(List.getElem?_eq_some_iff.1 ht).1
  obtain⟨T', h1,h2⟩:=hE.tok t T hl ht;have hJt:=low hid hl;exact⟨T', by rw[Qrp hJt (hJ t (List.mem_of_getElem? hJt))]; exact h1,h2⟩
structure EndN (n m:Nat) (s' : S) (r d:D) (t:S):Prop where
 ex:∃ I J,Qahq n t.heap.length I=true∧Qahq m t.live.length J=true∧LeD d (r.ren I J)∧LeH (t.heap.take n) ((s'.heap.take n).map fun cs=>cs.map (D.ren I J)) ∧
  (I.drop n).map (t.heap.getD · [])=(s'.heap.drop n).map (fun cs=>cs.map (D.ren I J))∧J.map (t.live.getD · 0)=s'.live
def Qaj5(ds:List D):D:=match ds with
 | [d]=>d
 | ds =>.tup ds
def Qaq1(tb:Tbl)(rs:List ResultVar)(R:D→S→Prop)(e:Exit)(σ : St):Prop :=
 match e with
 | .normal=>Qhc tb σ rs fun ds=>R (Qaj5 ds) σ.s
 | .ret=>Qhc tb σ rs fun ds=>R (Qaj5 ds) σ.s
 | _=>False
theorem Qaj6{G:Gh}{w:World}{ds:List D}{us:List Value}(hl:us.length=ds.length)(h:∀ (j:Nat) d u,ds[j]? = some d→us[j]? = some u→DRel G w d u) :
  DRel G w (Qaj5 ds) (if h:us.toArray.size=1 then us.toArray[0] else .tuple us.toArray):=by
 unfold Qaj5;split
 ·rename_i d
  match us,hl with
  | [u],_=>exact h 0 _ u rfl rfl
 ·rename_i hne;have hsz:¬ us.toArray.size=1:=by
   intro h1;have h2:ds.length=1:=by rw[← hl]; simpa using h1
   match ds,h2 with
   | [d],_=>exact hne d rfl
  rw[dif_neg hsz];exact .tup _ _ (by simp[hl]) fun j c u hc hu=>h j c u hc (by simpa using hu)
theorem CallOK.ofTN(hT:TblOk P tb){f:FuncId}{fn:Func}{c:Code}(hf:P.funcs[f]? = some fn)(hb:fn.body=some c)(hn:isFn P f=true){args:List D}(hN:args.length≤fn.ntmps){s s' : S}{r:D}
  (hr:r.lt s'.heap.length s'.live.length=true) (hs:s'.heap.all (fun cs=>cs.all (D.lt s'.heap.length s'.live.length))=true)
  (hn' : s.heap.length≤s'.heap.length)
  (h:T (s.heap.length,s.live.length) P fn.ntmps c (fun e σ => ∃ τ,Le (s.heap.length,s.live.length) fn.ntmps σ τ ∧ Qaq1 tb fn.results.toList (EndN s.heap.length s.live.length s' r) e τ) ⟨Qu7 args 0,s⟩):CallOK P f args s r s' := by
 refine⟨hn,fun G w us hI hl hrel=>?_⟩;have hR:Rel fn.ntmps G ⟨Qu7 args 0,s⟩ { tmps:=us++Array.replicate (fn.ntmps-us.size) undef,defers:=[] } w:=by
  refine⟨hI,fun t d hd=>?_,by simp; omega⟩;obtain⟨h1,h2⟩:=Qot args 0 t d hd;have hlt:t<args.length:=(List.getElem?_eq_some_iff.1 h1).1;have hlt2:t<us.size:=by omega
  refine⟨by simp; omega,?_⟩;refine hrel t d _ h1 ?_;simp only[Array.getD_eq_getD_getElem?,Array.getElem?_append_left hlt2,Array.getElem?_eq_getElem hlt2,Option.getD_some]
 have hln:G.name.length=s.heap.length:=hI.names;have hlt:G.tok.length=s.live.length:=by rw[← hI.live]; simp
 refine Qou hf hb (T_up h fun e σ' hq=>hq) hR fun e G' σ' a' w' hE hR' hq=>?_
 have key:∀ (hq:Qhc tb σ' fn.results.toList fun ds=>EndN s.heap.length s.live.length s' r (Qaj5 ds) σ'.s),∃ v,(results fn a'.tmps).run P w' = .ok v w' ∧
   ∃ u G', Ending.returned v = .returned u∧Stp G w G' w' ∧ Inv G' s' w' ∧ DRel G' w' r u:=fun hq=>by
  obtain⟨ds,us', h1,h2,h3,⟨I,J,hI0,hJ0,h4,h5,h5b,h6⟩⟩:=Qf5 hT hR' _ _ hq;unfold Qahq at hJ0 hI0;simp only[Bool.and_eq_true] at hJ0 hI0;obtain⟨⟨hI1,hI2⟩,hI3⟩:=hI0;obtain⟨⟨hJ1,hJ2⟩,hJ3⟩:=hJ0;have nI:=Qc0 I hI1;have nJ:=Qc0 J hJ1;have bI:=Qj1 hI2;have bJ:=Qj1 hJ2;have hI3' : I.take s.heap.length=List.range s.heap.length:=by simpa using hI3
  have lT:G'.tok.length = σ'.s.live.length:=by have:=congrArg List.length hR'.inv.live; simpa using this
  have lN:G'.name.length = σ'.s.heap.length:=hR'.inv.names;have hd:=(Qaj6 h2 h3).le h4;have h7:=LeH.app h5 (LeH.refl (σ'.s.heap.drop s.heap.length));rw[List.take_append_drop] at h7;have hinv1:=Inv.le (h := σ'.s.heap) (live := σ'.s.live) hR'.inv h7;have hlen:((s'.heap.take s.heap.length).map fun cs=>cs.map (D.ren I J)).length=s.heap.length:=by rw[List.length_map,List.length_take]; omega
  have hlI:I.length=s'.heap.length:=by
   have e1:=congrArg List.length h5b;have e2:=congrArg List.length hI3';simp only[List.length_map,List.length_drop,List.length_take,List.length_range] at e1 e2;omega
  have hlJ:J.length=s'.live.length:=by rw[← h6]; simp
  have hll:((s'.heap.take s.heap.length).map (fun cs=>cs.map (D.ren I J)) ++ σ'.s.heap.drop s.heap.length).length = σ'.s.heap.length:=by
   have:=hinv1.names;rw[← this,lN]
  have up:∀ i ∈ I.drop s.heap.length,s.heap.length≤i:=fun i hi=>by
   refine Nat.le_of_not_lt fun hlt=>?_
   have e:(I.take s.heap.length++I.drop s.heap.length).Nodup:=by rw[List.take_append_drop]; exact nI
   refine(List.nodup_append.1 e).2.2 i ?_ i hi rfl;rw[hI3']; exact List.mem_range.2 hlt
  have hinv2:Inv (G'.sub I J) ⟨s'.heap,s'.live⟩ w' := hinv1.sub (I:=I) (J:=J) nI nJ (fun i hi=>by rw[hll]; exact bI i hi) bJ (by
   have e:=Q05 ((s'.heap.take s.heap.length).map fun cs=>cs.map (D.ren I J)) (σ'.s.heap.drop s.heap.length) [];rw[hlen] at e;have e2:(I.drop s.heap.length).map (((s'.heap.take s.heap.length).map (fun cs=>cs.map (D.ren I J)) ++ σ'.s.heap.drop s.heap.length).getD · [])=(s'.heap.drop s.heap.length).map (fun cs=>cs.map (D.ren I J)):=by
    rw[← h5b];refine List.map_congr_left fun i hi=>?_
    have hi2:=up i hi;simp only[List.getD];rw[List.getElem?_append_right (by omega),List.getElem?_drop,hlen];congr 2; omega
   have e3:I=List.range s.heap.length++I.drop s.heap.length:=by rw[← hI3', List.take_append_drop]
   have e4:s'.heap.map (fun cs=>cs.map (D.ren I J))=(s'.heap.take s.heap.length).map (fun cs=>cs.map (D.ren I J))++(s'.heap.drop s.heap.length).map (fun cs=>cs.map (D.ren I J)):=by rw[← List.map_append,List.take_append_drop]
   exact(congrArg (List.map _) e3).trans (by rw[List.map_append,e,e2,e4])) h6 (by rw[hlI,hlJ]; exact hs)
  have hst:Stp G w (G'.sub I J) w' := Qam2 hE hln hlt (fun i hi=>by rw[lN]; exact bI i hi) (fun j hj=>by rw[lT]; exact bJ j hj) hI3' (by simpa using hJ3);refine⟨if h:us'.toArray.size=1 then us'.toArray[0] else .tuple us'.toArray,?_,_,_,rfl,hst,hinv2,Q6q (fun i hi=>by rw[lN]; exact bI i hi) (fun j hj=>by rw[lT]; exact bJ j hj) (by rw[hlI,hlJ]; exact hr) hd⟩;unfold results;rw[Sem.run_bind,Array.mapM_eq_mapM_toList,Sem.run_map]
  erw [h1]
  rfl
 cases e with
 | normal=>exact⟨.inl rfl,key hq⟩
 | ret=>exact⟨.inr rfl,key hq⟩
 | _=>exact hq.elim
theorem CallOK.ofBN(hm:P.follows .mixedOrders=true)(hT:TblOk P tb){f:FuncId}{fn:Func}{c:Code}(lv:List (Nat×List Nat))(hf:P.funcs[f]? = some fn)(hb:fn.body=some c)(hn:isFn P f=true){args:List D}(hN:args.length≤fn.ntmps){s s' : S}{r:D}
  (hr:r.lt s'.heap.length s'.live.length=true) (hs:s'.heap.all (fun cs=>cs.all (D.lt s'.heap.length s'.live.length))=true)
  (hn' : s.heap.length≤s'.heap.length)
  (h:bwp (s.heap.length,s.live.length) P tb fn.ntmps lv c (fun e σ => ∃ τ,Le (s.heap.length,s.live.length) fn.ntmps σ τ ∧ Qaq1 tb fn.results.toList (EndN s.heap.length s.live.length s' r) e τ) ⟨Qu7 args 0,s⟩):CallOK P f args s r s' :=
 CallOK.ofTN hT hf hb hn hN hr hs hn' (Qao hm hT c _ _ h)
theorem Q09{α : Type}{x y : α}{d:D}{u:S}{n m:Nat}{t : α → D}{ss : α → S}(h:some x=some y)(k:EndN n m (ss x) (t x) d u):EndN n m (ss y) (t y) d u:=by cases h; exact k
theorem Q68{α R:Type}{x:Option α}{f : α → Option R}{r:R}{g:FuncId}{args:List D}{s:S}(t : α → D)(s' : α → S){K:D→S→Prop}(h:(x>>=f)=some r)(hok:∀ y,x=some y→CallOK P g args s (t y) (s' y))(k:∀ y,x=some y→f y=some r→K (t y) (s' y)) :
  ∃ r s', CallOK P g args s r s' ∧ K r s' := Qai h fun y hy hf=>⟨t y,s' y,hok y hy,k y hy hf⟩
end
theorem Qz4{p:Prop}[Decidable p]{R:Type}{f:Unit→Option R}{r:R}{φ : Prop}(h:(need p>>=f)=some r)(k:p→f ()=some r → φ) : φ := by
 unfold need at h;split at h
 ·rename_i hp; exact k hp h
 ·cases h
def noTD(t:Nat):D→Bool
 | .agg ds=>ds.all (noT1 t)
 | .tup ds=>ds.all (noT1 t)
 | .fn _ x y=>x.all (noT1 t)&&y.all (noT1 t)
 | d=>noT1 t d
def Qam3(t q:Nat):Env→Bool
 | []=>false
 | (s,d)::r=>if s=q then r.all (fun p=>noTD t p.2) else noTD t d&&Qam3 t q r
theorem Qaea{t v v' : Nat}{d:D}(h:noT1 t d=true):ver1 t v v' d=d:=by
 cases d with
 | x t' w X =>
  have:t' ≠ t:=by simpa [noT1] using h
  simp[ver1,this]
 | _=>rfl
theorem Qao3{t v v' : Nat}{ds:List D}(h:ds.all (noT1 t)=true):ds.map (ver1 t v v')=ds:=by
 rw[List.all_eq_true] at h;exact(List.map_congr_left (g:=id) fun d hd=>Qaea (h d hd)).trans (List.map_id ds)
theorem Qaj7{t v v' : Nat}{d:D}(h:noTD t d=true):verD t v v' d=d:=by
 cases d with
 | agg ds=>exact congrArg D.agg (Qao3 h)
 | x t' w X=>exact Qaea (d :=.x t' w X) h
 | _=>rfl
theorem Qaj8{t v v' : Nat}:∀ {env:Env},env.all (fun p=>noTD t p.2)=true→verE t v v' env=env
 | [],_=>rfl
 | (s,d)::r,h=>by
  simp only[List.all_cons,Bool.and_eq_true] at h;rw[verE,Qaj7 h.1,Qaj8 h.2]
theorem Qan0{t v:Nat}{d:D}(h:noTD t d=true):okT t v d=true:=by
 have one:∀ d:D,noT1 t d=true→okT1 t v d=true:=fun d h=>by
  cases d with
  | x t' w X=>have h:(t' != t)=true:=h; simp[okT1,h]
  | fn _ _ _=>cases h
  | agg _=>cases h
  | tup _=>cases h
  | sf _=>cases h
  | ef _=>cases h
  | _=>exact h
 cases d with
 | agg ds =>
  have h:ds.all (noT1 t)=true:=h;rw[List.all_eq_true] at h;exact List.all_eq_true.2 fun d hd=>one d (h d hd)
 | tup ds=>exact h
 | fn _ x y=>exact h
 | sf _=>cases h
 | ef _=>cases h
 | p x=>exact one (.p x) h
 | ptr a b=>exact one (.ptr a b) h
 | own a b c e=>exact one (.own a b c e) h
 | yld a b c=>exact one (.yld a b c) h
 | sp a b c d e=>exact one (.sp a b c d e) h
 | x a b c=>exact one (.x a b c) h
 | mh a=>exact one (.mh a) h
 | undef=>exact one .undef h
theorem Qaj9{t q v v' : Nat}{X:XD}:∀ {env:Env},Qam3 t q env=true→env.lookup q=some (.x t v X)→verE t v v' env=setE env q (.x t v' X)∧env.all (fun p=>okT t v p.2)=true
 | [],h,_=>by cases h
 | (s,d)::r,h,hl=>by
  unfold Qam3 at h;by_cases hs:s=q
  ·rw[if_pos hs] at h;subst hs;simp only[List.lookup_cons,beq_self_eq_true,Option.some.injEq] at hl;subst hl;refine⟨?_,?_⟩
   ·rw[verE,Qaj8 h,setE,if_pos rfl]; simp[verD,ver1]
   ·simp only[List.all_cons,Bool.and_eq_true];refine⟨by simp[okT,okT1],?_⟩;rw[List.all_eq_true] at h ⊢;exact fun p hp=>Qan0 (h p hp)
  ·rw[if_neg hs] at h;simp only[Bool.and_eq_true] at h;have hb:(q==s)=false:=by simpa using Ne.symm hs
   rw[List.lookup_cons,hb] at hl;obtain⟨e1,e2⟩:=Qaj9 h.2 hl;refine⟨?_,?_⟩
   ·rw[verE,Qaj7 h.1,e1,setE,if_neg hs]
   ·simp only[List.all_cons,Bool.and_eq_true]; exact⟨Qan0 h.1,e2⟩
def noTH(t:Nat):D→Bool
 | .tup [.p _]=>true
 | .fn _ x y=>x.all (noT1 t)&&y.all (noT1 t)
 | d=>noT1 t d
theorem Qao4{t v v' : Nat}{d:D}(h:noTH t d=true):ver1 t v v' d=d:=by
 cases d with
 | x t' w X=>exact Qaea (d :=.x t' w X) h
 | _=>rfl
theorem Qao5{t v:Nat}{d:D}(h:noTH t d=true):okT1 t v d=true:=by
 cases d with
 | x t' w X=>have h:(t' != t)=true:=h; simp[okT1,h]
 | fn _ _ _=>exact h
 | agg _=>cases h
 | tup ds =>
  match ds,h with
  | [.p _],_=>rfl
 | sf _=>cases h
 | ef _=>cases h
 | p x=>exact h
 | ptr a b=>exact h
 | own a b c e=>exact h
 | yld a b c=>exact h
 | sp a b c d e=>exact h
 | mh a=>exact h
 | undef=>exact h
theorem Le.verh{B:Nat×Nat}{N:Nat}{env:Env}{s:S}(q t v v' : Nat){X:XD}(h:s.live[t]? = some v)(hg:env.lookup q=some (.x t v X))(hE:Qam3 t q env=true)(hH:s.heap.all (fun cs=>cs.all (noTH t))=true)
  (hB:B.2≤t:=by exact Nat.le_of_ble_eq_true rfl):Le B N ⟨env,s⟩ ⟨setE env q (.x t v' X),⟨s.heap,s.live.set t v'⟩⟩:=by
 obtain⟨e1,e2⟩:=Qaj9 (v' := v') hE hg;have e3:verH t v v' s.heap=s.heap:=by
  rw[Qzw];rw[List.all_eq_true] at hH;refine(List.map_congr_left (g:=id) fun cs hc=>?_).trans (List.map_id s.heap);have:=hH cs hc;rw[List.all_eq_true] at this;exact(List.map_congr_left (g:=id) fun d hd=>Qao4 (this d hd)).trans (List.map_id cs)
 have e4:s.heap.all (fun cs=>cs.all (okT1 t v))=true:=by
  rw[List.all_eq_true] at hH ⊢;intro cs hc;have:=hH cs hc;rw[List.all_eq_true] at this ⊢;intro d hd;exact Qao5 (this d hd)
 have:=Le.ver (B:=B) (N:=N) (env:=env) (s:=s) (.s q) t v v' h hg e2 e4 hB
 rwa [e1,e3] at this
def Gh.into(G:Gh)(t m n:Nat)(Tm:Tok):Gh:={ G with tok:=(G.tok.set t Tm).set m ⟨n+1,none,0,none⟩ }
theorem Qaf9{G:Gh}{t m n:Nat}{Tm:Tok}(hm:G.tok[m]? = some Tm){x:Nat}{T:Tok}(h:(G.into t m n Tm).tok[x]? = some T):(x=m∧T=⟨n+1,none,0,none⟩)∨(x≠m∧x=t∧T=Tm)∨(x≠m∧x≠t∧G.tok[x]? = some T):=by
 have h:((G.tok.set t Tm).set m ⟨n+1,none,0,none⟩)[x]? = some T:=h;have hml:=(List.getElem?_eq_some_iff.1 hm).1;by_cases hx:x=m
 ·subst hx;rw[List.getElem?_set_self (by simpa using hml)] at h;cases h; exact .inl ⟨rfl,rfl⟩
 ·rw[List.getElem?_set_ne (Ne.symm hx)] at h;by_cases hy:x=t
  ·subst hy;rw[List.getElem?_set_self (by have:=(List.getElem?_eq_some_iff.1 h).1; simpa using this)] at h;cases h; exact .inr (.inl ⟨hx,rfl,rfl⟩)
  ·rw[List.getElem?_set_ne (Ne.symm hy)] at h;exact .inr (.inr ⟨hx,hy,h⟩)
theorem Le.into{B:Nat×Nat}{N:Nat}{env:Env}{s:S}(q q2 t m v n:Nat){e size e2 size2:Nat}{es es2:List (List V)}(hg:env.lookup q=some (.own m e size es))(hw:env.lookup q2=some (.own t e2 size2 es2))(hl:s.live[t]? = some v)(hm:s.live[m]? = some n)
  (hn:es.length=n) (hv:v<n) (htm:t≠m):Le B N ⟨env,s⟩ ((Home.s q).set (.own t e size es) ⟨env,⟨s.heap,(s.live.set t n).set m (n+1)⟩⟩):=⟨fun G a w hR=>by
 have hI:=hR.inv;obtain⟨Tt,ht,hpt,hlt⟩:∃ Tt,G.tok[t]? = some Tt∧Tt.pro=none∧Tt.len=v:=by
  obtain⟨T,h1,h2⟩:=Q6t hI hl;have:=(hR.env q2 _ hw).2;generalize a.tmps.getD q2 undef=u at this;cases this with
  | own _ _ _ _ _ T2 _ _ h3 h0 _ _ =>
   rw[h1] at h3;cases h3;exact⟨T,h1,h0,h2⟩
 obtain⟨Tm,hTm,hpm,hlm⟩:∃ Tm,G.tok[m]? = some Tm∧Tm.pro=none∧Tm.len=n:=by
  obtain⟨T,h1,h2⟩:=Q6t hI hm;have:=(hR.env q _ hg).2;generalize a.tmps.getD q undef=u at this;cases this with
  | own _ _ _ _ _ T2 _ _ h3 h0 _ _ =>
   rw[h1] at h3;cases h3;exact⟨T,h1,h0,h2⟩
 have dead:∀ b,¬ (Tok.mk (n+1) none 0 none).has b:=fun b h=>by have:=Tok.has_row.1 h; cases this
 have mem:∀ T ∈ (G.into t m n Tm).tok,T=⟨n+1,none,0,none⟩∨T ∈ G.tok:=fun T hT=>by
  obtain⟨x,hx⟩:=List.getElem?_of_mem hT;rcases Qaf9 hTm hx with ⟨-,h⟩ | ⟨-,-,h⟩ | ⟨-,-,h⟩
  ·exact .inl h
  ·exact .inr (h ▸ List.mem_of_getElem? hTm)
  ·exact .inr (List.mem_of_getElem? h)
 have hml:=(List.getElem?_eq_some_iff.1 hTm).1;have htl:=(List.getElem?_eq_some_iff.1 ht).1;have gm:(G.into t m n Tm).tok[m]? = some ⟨n+1,none,0,none⟩:=by
  show((G.tok.set t Tm).set m _)[m]? = _;rw[List.getElem?_set_self (by simpa using hml)]
 have gt:(G.into t m n Tm).tok[t]? = some Tm:=by
  show((G.tok.set t Tm).set m _)[t]? = _;rw[List.getElem?_set_ne (Ne.symm htm),List.getElem?_set_self htl]
 have go:∀ x,x≠t→x≠m→(G.into t m n Tm).tok[x]? = G.tok[x]? := fun x h1 h2=>by
  show((G.tok.set t Tm).set m _)[x]? = _;rw[List.getElem?_set_ne (Ne.symm h2),List.getElem?_set_ne (Ne.symm h1)]
 have stp:Stp G w (G.into t m n Tm) w:=by
  refine⟨⟨rfl,rfl,rfl,Nat.le_refl _,fun b o u h k=>⟨h,k⟩,fun _ _ _ _=>rfl,fun b o h =>.inl h,fun b hb=>?_,fun b o h=>h,.refl w⟩,fun nm b h=>h,fun x T hx=>?_⟩
  ·rcases hb with hb | ⟨T,hT,hb⟩
   ·exact .inr (.inl hb)
   ·rcases mem T hT with rfl | h
    ·exact absurd hb (dead b)
    ·exact .inr (.inr ⟨T,h,hb⟩)
  ·by_cases h1:x=t
   ·subst h1;rw[ht] at hx;cases hx;exact⟨Tm,gt,⟨by omega,by rw[hpm,hpt]⟩,fun h=>by omega⟩
   ·by_cases h2:x=m
    ·subst h2;rw[hTm] at hx;cases hx;exact⟨_,gm,⟨by show Tm.len≤n+1; omega,by rw[hpm]⟩,fun h=>by have h:Tm.len=n+1:=h; omega⟩
    ·exact⟨T,by rw[go x h1 h2]; exact hx,.refl T,fun _=>⟨rfl,fun _ _=>rfl⟩⟩
 have inv:Inv (G.into t m n Tm) ⟨s.heap,(s.live.set t n).set m (n+1)⟩ w:=by
  refine⟨fun b o hc=>?_,hI.names,hI.nodup,fun i b cs hb hcs=>(hI.var i b cs hb hcs).mono stp rfl,?_,fun x T b hx hb=>?_,fun T hT=>?_,hI.glob⟩
  ·obtain⟨h1,h2,h3⟩:=hI.com b o hc;refine⟨h1,h2,fun T hT=>?_⟩;rcases mem T hT with rfl | h
   ·exact Tok.may_row.2 fun h=>(nomatch h)
   ·exact h3 T h
  ·show((G.tok.set t Tm).set m _).map (·.len)=_;rw[List.map_set,List.map_set,hI.live,hlm]
  ·have orig:∀ (y:Nat) T', (G.into t m n Tm).tok[y]? = some T' → T'.has b→y≠m∧G.tok[if y=t then m else y]? = some T' := fun y T' hy hb' => by
    rcases Qaf9 hTm hy with ⟨-,h⟩ | ⟨h0,rfl,h⟩ | ⟨h0,h1,h⟩
    ·subst h; exact absurd hb' (dead b)
    ·subst h; exact⟨h0,by rw[if_pos rfl]; exact hTm⟩
    ·exact⟨h0,by rw[if_neg h1]; exact h⟩
   obtain⟨k1,k2⟩:=orig x T hx hb;obtain⟨g1,g2,g3⟩:=hI.tok _ T b k2 hb;refine⟨g1,g2,fun y T' hy hb' => ?_⟩;obtain⟨j1,j2⟩:=orig y T' hy hb';have:=g3 _ T' j2 hb';split at this<;>split at this<;>omega
  ·rcases mem T hT with rfl | h
   ·exact⟨fun q hq=>(nomatch hq),fun b o ⟨q,hq,_⟩=>(nomatch hq)⟩
   ·exact hI.pro T h
 refine⟨G.into t m n Tm,stp.ex B,Qth (hm :=.s q) hR stp inv rfl (fun _ _=>rfl) hg fun u hu=>?_⟩;cases hu with
 | own _ _ _ _ _ T2 h1 h2 h3 h0 h4 h5 =>
  rw[hTm] at h3;cases h3;obtain⟨a2,cap,rfl,h6⟩:=h5 (by omega);refine⟨.own t e size es _ Tm h1 h2 gt h0 h4 fun he=>⟨a2,cap,rfl,h6.imp id (Or.imp_left ?_)⟩,rfl⟩;rintro ⟨b,us,T3,ha,g1,g⟩;rw[hTm] at g1;cases g1;exact⟨b,us,Tm,ha,gt,g⟩⟩
def mget{κ α : Type}(eqb : κ → κ → Bool)(k : κ):List (κ × α)→Option α
 | []=>none
 | p::r=>if eqb k p.1 then some p.2 else mget eqb k r
def mset{κ α : Type}(eqb : κ → κ → Bool)(k : κ)(x : α):List (κ × α)→List (κ × α)
 | []=>[(k,x)]
 | p::r=>if eqb k p.1 then(k,x)::r else p::mset eqb k x r
abbrev mpR{κ α : Type}(ck : κ → V)(ca : α → V)(l:List (κ × α)):List (List V):=l.map fun p=>[ck p.1,ca p.2]
abbrev mpD{κ α : Type}(ck : κ → V)(ca : α → V)(l:List (κ × α)):D :=.tup [.p (.sl false (mpR ck ca l))]
theorem Qabf{κ α : Type}{eq:V→V→Option Bool}{eqb : κ → κ → Bool}{ck : κ → V}{ca : α → V}(heq:∀ a b,eq (ck a) (ck b)=some (eqb a b))(k : κ):∀ l:List (κ × α),Q0r eq (ck k) (mpR ck ca l)=some ((mget eqb k l).map ca)
 | []=>rfl
 | p::r=>by
  have ih:=Qabf (ca:=ca) heq k r;show Q0r eq (ck k) ([ck p.1,ca p.2]::mpR ck ca r)=_;rw[Q0r,heq,mget];cases eqb k p.1 with
  | true=>rfl
  | false=>exact ih
theorem Qaga{κ α : Type}{eq:V→V→Option Bool}{eqb : κ → κ → Bool}{ck : κ → V}{ca : α → V}(heq:∀ a b,eq (ck a) (ck b)=some (eqb a b))(k : κ)(x : α):∀ l:List (κ × α),mSet eq (ck k) (ca x) (mpR ck ca l)=some (mpR ck ca (mset eqb k x l))
 | []=>rfl
 | p::r=>by
  have ih:=Qaga (ca:=ca) heq k x r;show mSet eq (ck k) (ca x) ([ck p.1,ca p.2]::mpR ck ca r)=_;rw[mSet,heq,mset];cases eqb k p.1 with
  | true=>rfl
  | false =>
   show(mSet eq (ck k) (ca x) (mpR ck ca r)).map ([ck p.1,ca p.2] :: ·)=_;rw[ih]; rfl
theorem Qva{κ α : Type}{l:List (κ × α)}{k : κ}(eqb : κ → κ → Bool){ck : κ → V}{ca : α → V}{z0 : α}{zv:Value}{z kx:V}{hp:Option (List D)}{eq:V→V→Option Bool}{ko:Bool}{K:V→Bool→Prop}
  (hko:ko=true) (hh:hp=some [mpD ck ca l]) (hkx:kx=ck k) (heq:∀ a b,eq (ck a) (ck b)=some (eqb a b)) (hz:absV zv=some z) (hle:LeV z (ca z0)) (h:K (ca ((mget eqb k l).getD z0)) (mget eqb k l).isSome) :
  ko=true∧∃ fl ms r z v b,hp=some [.tup [.p (.sl fl ms)]]∧Q0r eq kx ms=some r∧absV zv=some z∧LeV (r.getD z) v∧b=r.isSome∧K v b:=by
 subst hkx;refine⟨hko,false,_,_,z,ca ((mget eqb k l).getD z0),(mget eqb k l).isSome,hh,Qabf heq k l,hz,?_,?_,h⟩
 ·cases mget eqb k l with
  | none=>exact hle
  | some x=>exact .refl _
 ·cases mget eqb k l<;>rfl
theorem Qagb{κ α : Type}{l:List (κ × α)}{k : κ}{x : α}(eqb : κ → κ → Bool){ck : κ → V}{ca : α → V}{kx vx:V}{hp:Option (List D)}{eq:V→V→Option Bool}{ko:Bool}{K:Bool→List (List V)→Prop}
  (hko:ko=true) (hh:hp=some [mpD ck ca l]) (hkx:kx=ck k) (hvx:LeV vx (ca x)) (heq:∀ a b,eq (ck a) (ck b)=some (eqb a b)) (h:K false (mpR ck ca (mset eqb k x l))) :
  ko=true∧∃ fl ms ms' v,hp=some [.tup [.p (.sl fl ms)]]∧LeV vx v∧mSet eq kx v ms=some ms' ∧ K fl ms' := by
 subst hkx;exact⟨hko,false,_,_,ca x,hh,hvx,Qaga heq k x l,h⟩
end Go.Proofs.YtfgegilhjlnohaaGreat
end
noncomputable section
namespace Go.Proofs.YtfgegilhjlnohaaGreat
open Go.RowKit Go.Sort Go.Shelf
def srtL (ss:List (List UInt8)):List (List UInt8):=ss.mergeSort fun x y=>decide (x≤y)
theorem Qan1{ss:List (List UInt8)}(h:ss.length<4611686018427387904):FnT Tryz.prog 48 #[] false ss (srtL ss):=Qao2 Tryz.lays190 (by kernel_rfl) ss h
theorem Qaka{ss:List (List UInt8)}(h:ss.length<4611686018427387904):FnT Tryz.prog 100 #[] true ss (Lib.compact ss):=Qahr Tryz.lays194 (by kernel_rfl) ss h
end Go.Proofs.YtfgegilhjlnohaaGreat
end

noncomputable section
namespace Go.Proofs.YtfgegilhjlnohaaGreat
open Go.RowKit
set_option linter.unusedSimpArgs false
set_option linter.unusedVariables false
def digs(m:Nat):List UInt8 :=
 if m<10 then [UInt8.ofNat (48+m)] else digs (m / 10)++[UInt8.ofNat (48+m % 10)]
termination_by m
decreasing_by omega
theorem Qaeb(m:Nat)(h:m<10):digs m=[UInt8.ofNat (48+m)]:=by rw[digs,if_pos h]
theorem Qakb(m:Nat)(h:10≤m):digs m=digs (m / 10)++[UInt8.ofNat (48+m % 10)]:=by rw[digs,if_neg (by omega)]
theorem Qagc(m:Nat):∀ k,m<10 ^ (k+1)→(digs m).length≤k+1:=by
 intro k
 induction k generalizing m with
 | zero=>intro h; rw[Qaeb m (by simpa using h)]; simp
 | succ k ih =>
  intro h;by_cases h10:m<10
  ·rw[Qaeb m h10]; simp
  ·rw[Qakb m (by omega)];have:=ih (m / 10) (by rw[Nat.pow_succ] at h; omega);simp; omega
def Qxu(n:Int):List UInt8:=if n<0 then 45::digs n.natAbs else digs n.natAbs
def isD(c:UInt8):Bool:=48≤c.toNat&&c.toNat≤57
def dv(c:UInt8):Nat:=c.toNat-48
def val(l:List UInt8):Nat:=l.foldl (fun u c=>u*10+dv c) 0
theorem Qam4(u:Nat):(((UInt8.ofNat (48+u % 10)).toNat:Nat):Int)=48+(u:Int) % 10:=by
 simp; omega
theorem Qaq2 {P : Program} (src dst e : TypeId) (hs : P.underlying src = some (.slice e)) (he : P.underlying e = some (.int .u8)) (hd : P.underlying dst = some .string)
   (x : Int) (y : UInt8) (hxy : x = y.toNat) (b c : Nat) (W : World) (h0 : W.cell? ⟨b, 0, none⟩ = some (.int .u8 x)) :
   (convert src dst (.slice (some ⟨b, 0, none⟩) 1 c)).run P W = .ok (.string ⟨#[y]⟩) W := by
  subst hxy
  have := run_convert_bytes_back (P := P) W src dst e ⟨b, 0, none⟩ c [y] hs he hd (by
    intro j hj
    have hj2 : j = 0 := by simp at hj; omega
    subst hj2
    simpa [Addr.add] using h0)
  exact this
theorem Qakc(a b:List UInt8):(⟨a.toArray⟩:ByteArray)++(⟨b.toArray⟩:ByteArray)=⟨(a++b).toArray⟩:=by
 rw[← Lib.mk_data (_++_)]; simp
set_option maxHeartbeats 800000 in
theorem Q5u(m:Nat)(h:m<18446744073709551616)(w:World) :
  Calls Tryz.prog 182 #[.int .u64 m] w fun e w' => e = .returned (.string ⟨(digs m).toArray⟩)∧Below w.heap.size w w' := by
 go_enter Tryz.func182,Tryz.ntmps182
 go_wp2
 go_loopw [0,3] (fun n s wr=>∃ (u:Nat) (suf:List UInt8),u<18446744073709551616∧n = .int .u64 u∧s = .string ⟨suf.toArray⟩∧digs m=digs u++suf∧Below w.heap.size w wr) (fun n _ _=>(intOf n).toNat)
 case atStart=>exact⟨m,[],h,rfl,rfl,by simp,Below.refl _ _⟩
 case round =>
  obtain⟨u,suf,hu,rfl,rfl,hd,hb⟩:=hrel;have hsl:suf.length≤20:=by
   have e:=congrArg List.length hd;have:=Qagc m 19 (by omega);simp at e; omega
  have HD:=Lib.hid hd; clear hd;have HB:=Lib.hid hb; clear hb;by_cases hlt:9<u
  ·have kc:=Qaq2 (P:=Tryz.prog) 57 9 5 Tryz.underlying57 Tryz.underlying5 Tryz.underlying9 (48+(u:Int) % 10) (UInt8.ofNat (48+u % 10)) (Qam4 u).symm
   go_wp2
   go_roundw
   case rel=>exact⟨u / 10,(48+UInt8.ofNat (u % 10))::suf,by omega,by simp,congrArg Value.string (Qakc [_] suf),by rw[HD.out,Qakb u (by omega)]; simp,HB.out.trans ((Below.refl _ _).alloc HB.out.size _)⟩
   case measure=>simp[intOf]; omega
  ·have kc:=Qaq2 (P:=Tryz.prog) 57 9 5 Tryz.underlying57 Tryz.underlying5 Tryz.underlying9 (48+(u:Int)) (UInt8.ofNat (48+u)) (by simp; omega)
   go_wp2
   go_ret
   refine⟨Qajz ?_,HB.out.trans ((Below.refl _ _).alloc HB.out.size _)⟩;rw[HD.out,Qaeb u (by omega)];rw[show UInt8.ofNat (48+u)=48+UInt8.ofNat u from by simp];exact Qakc [_] suf
set_option maxHeartbeats 800000 in
theorem Qwd(n:Int)(h0 : -9223372036854775808≤n)(h1:n≤9223372036854775807)(w:World) :
  Calls Tryz.prog 172 #[.int .i64 n] w fun e w' => e = .returned (.string ⟨(Qxu n).toArray⟩)∧Below w.heap.size w w' := by
 rcases Int.lt_or_le n 0 with hn | hn
 ·obtain⟨m,rfl⟩:∃ m:Nat,n = -((m:Int)+1):=⟨(-n-1).toNat,by omega⟩;have ht:Qxu (-((m:Int)+1))=45::digs (m+1):=by
   rw[Qxu,if_pos hn]; congr 2
  have hdg:=fun w=>Q5u (m+1) (by omega) w
  have hl:(digs (m+1)).length≤20:=Qagc _ 19 (by omega);rw[ht]; clear ht;generalize digs (m+1)=D at hdg hl;have HG:=Lib.hid hdg; clear hdg
  go_enter Tryz.func172,Tryz.ntmps172
  go_wp2_with fail
  rw[show -(-((m:Int)+1)+1)+1=((m+1:Nat):Int) from by omega];refine(HG.out _).mono ?_;rintro e w' ⟨rfl,hb⟩
  go_wp2_with fail
  go_ret
  exact⟨Qajz (Qakc [45] _),hb⟩
 ·obtain⟨m,rfl⟩:=Int.eq_ofNat_of_zero_le hn;have ht:Qxu (m:Int)=digs m:=by
   rw[Qxu,if_neg (by omega),Int.natAbs_natCast]
  rw[ht]; clear ht;have hdg:=fun w=>Q5u m (by omega) w
  generalize digs m=D at hdg;have HG:=Lib.hid hdg; clear hdg
  go_enter Tryz.func172,Tryz.ntmps172
  go_wp2_with fail
  refine(HG.out _).mono ?_;rintro e w' ⟨rfl,hb⟩
  go_wp2_with fail
  go_ret
  exact⟨rfl,hb⟩
def Qy5(neg:Bool)(n:Int)(c:UInt8):Int:=if neg then wrap64 (wrap64 (10*n)-((c.toNat:Int)-48)) else wrap64 (wrap64 (10*n)+((c.toNat:Int)-48))
def Q1a(l:List UInt8):Int×Bool :=
 if l.length<1∨20<l.length then(0,false)
 else
  let neg:=l.head? == some 45
  let rest:=if neg then l.tail else l
  if rest.all isD then
   let n:=rest.foldl (Qy5 neg) 0
   if Qxu n=l then(n,true) else(0,false)
  else(0,false)
theorem Q5v(n:Int) : -9223372036854775808≤wrap64 n∧wrap64 n≤9223372036854775807:=by
 simp[wrap64]; omega
theorem Qan2(rs:ByteArray)(k:Nat)(h:k<rs.size):(rs.data.toList.drop k).all isD=(isD rs[k]&&(rs.data.toList.drop (k+1)).all isD):=by
 have h' : k<rs.data.toList.length:=by rw[← Qnn]; exact h
 rw[List.drop_eq_getElem_cons h']; rfl
theorem Qakd(neg:Bool)(rs:ByteArray)(k:Nat)(h:k<rs.size)(n:Int):(rs.data.toList.drop k).foldl (Qy5 neg) n=(rs.data.toList.drop (k+1)).foldl (Qy5 neg) (Qy5 neg n rs[k]):=by
 have h' : k<rs.data.toList.length:=by rw[← Qnn]; exact h
 rw[List.drop_eq_getElem_cons h']; rfl
theorem Q69(c:UInt8):isD c=decide ((48:Int)≤(c.toNat:Int)∧(c.toNat:Int)≤57):=by
 rw[Bool.eq_iff_iff]; simp[isD]; omega
set_option maxHeartbeats 4000000 in
theorem Qaec(s:ByteArray)(hs:s.size≤maxLen)(w:World) :
  Calls Tryz.prog 160 #[.string s] w fun e w' => e = .returned (.tuple #[.int .i64 (Q1a s.data.toList).1,.bool (Q1a s.data.toList).2])∧Below w.heap.size w w' := by
 unfold maxLen at hs;by_cases hlen:s.data.toList.length<1∨20<s.data.toList.length
 ·have hr:Q1a s.data.toList=(0,false):=by rw[Q1a,if_pos hlen]
  rw[hr]; clear hr;rw[← Qnn] at hlen
  go_enter Tryz.func160,Tryz.ntmps160
  go_wp2_with fail
  all_goals (go_ret2; exact⟨rfl,Below.refl _ _⟩)
 ·have hl1:0<s.size:=by rw[Qnn]; omega
  have hl2:s.size≤20:=by rw[Qnn]; omega
  have hneg:(s.data.toList.head? == some 45)=decide ((s[0].toNat:Int)=45):=by
   rw[Qaa7];cases hl:s.data.toList with
   | nil=>rw[Qnn,hl] at hl1; simp at hl1
   | cons a t=>rw[Bool.eq_iff_iff]; simp[← UInt8.toNat_inj]; omega
  have hr:Q1a s.data.toList=(if(if(s.data.toList.head? == some 45) then s.data.toList.tail else s.data.toList).all isD then
   (if Qxu ((if(s.data.toList.head? == some 45) then s.data.toList.tail else s.data.toList).foldl (Qy5 (s.data.toList.head? == some 45)) 0)=s.data.toList then((if(s.data.toList.head? == some 45) then s.data.toList.tail else s.data.toList).foldl (Qy5 (s.data.toList.head? == some 45)) 0,true) else(0,false)) else(0,false)):=by
   rw[Q1a,if_neg hlen]
  rw[hneg] at hr;by_cases h45:(s[0].toNat:Int)=45
  ·rw[decide_eq_true h45] at hr;simp only[↓reduceIte,← List.drop_one] at hr;have HR:=Lib.hid hr; clear hr;clear hneg hlen
   go_enter Tryz.func160,Tryz.ntmps160
   go_wp2_with fail
   go_loop [5,6] (fun n i=>∃ (k:Nat) (m:Int),k≤s.size∧i = .int .i64 k∧n = .int .i64 m ∧ -9223372036854775808≤m∧m≤9223372036854775807∧(s.data.toList.drop 1).all isD=(s.data.toList.drop k).all isD∧(s.data.toList.drop 1).foldl (Qy5 true) 0=(s.data.toList.drop k).foldl (Qy5 true) m) (fun _ i=>s.size-(intOf i).toNat)
   case atStart=>exact⟨1,0,by omega,rfl,rfl,by omega,by omega,rfl,rfl⟩
   case round =>
    obtain⟨k,m,hk,rfl,rfl,hm0,hm1,hal,hfo⟩:=hrel;have HA:=Lib.hid hal; clear hal;have HF:=Lib.hid hfo; clear hfo;by_cases hlt:k<s.size
    ·have HS1:=Lib.hid (Qan2 s k hlt);have HS2:=Lib.hid (Qakd true s k hlt m);have hwr:=Q5v (wrap64 (10*m)-((s[k].toNat:Int)-48));have HW:=Lib.hid hwr; clear hwr;generalize hck:s[k]=c at HS1 HS2 HW;have hck2:s[k]=c:=hck;clear hck;by_cases hd:(48:Int)≤(c.toNat:Int)∧(c.toNat:Int)≤57
     ·obtain⟨g1,g2⟩:=hd
      go_wp2
      go_round
      case rel=>exact⟨k+1,_,by omega,by go_num,rfl,HW.out.1,HW.out.2,by rw[HA.out,HS1.out,Q69,decide_eq_true ⟨g1,g2⟩]; rfl,by rw[HF.out,HS2.out]; rfl⟩
      case measure=>simp[intOf]; omega
     ·have hbad:(s.data.toList.drop 1).all isD=false:=by
       rw[HA.out,HS1.out,Q69,decide_eq_false hd]; rfl
      have HB:=Lib.hid hbad; clear hbad
      go_wp2
      all_goals
       go_ret2
       exact⟨Q5s (by rw[HR.out,HB.out]; rfl) (by rw[HR.out,HB.out]; rfl),Below.refl _ _⟩
    ·have hge:s.size≤k:=by omega
     have hz:s.data.toList.drop k=[]:=List.drop_of_length_le (by rw[← Qnn]; exact hge);have hall:(s.data.toList.drop 1).all isD=true:=by rw[HA.out,hz]; rfl
     have hfin:(s.data.toList.drop 1).foldl (Qy5 true) 0=m:=by rw[HF.out,hz]; rfl
     clear hz;have HB:=Lib.hid hall; clear hall;have HC:=Lib.hid hfin; clear hfin;by_cases hq:Qxu m=s.data.toList
     ·have hqb:(Qxu m==s.toList)=true:=by rw[Lib.toList_data]; simpa using hq
      have HQ:=Lib.hid hq; clear hq
      go_wp2_with fail
      refine(Qwd m hm0 hm1 _).mono ?_;rintro e w' ⟨rfl,hb⟩
      go_wp2_with fail
      go_ret2
      exact⟨Q5s (by rw[HR.out,HB.out,HC.out,if_pos HQ.out]; rfl) (by rw[HR.out,HB.out,HC.out,if_pos HQ.out]; rfl),hb⟩
     ·have hqb:(Qxu m==s.toList)=false:=by rw[Lib.toList_data]; simpa using hq
      have HQ:=Lib.hid hq; clear hq
      go_wp2_with fail
      refine(Qwd m hm0 hm1 _).mono ?_;rintro e w' ⟨rfl,hb⟩
      go_wp2_with fail
      go_ret2
      exact⟨Q5s (by rw[HR.out,HB.out,HC.out,if_neg HQ.out]; rfl) (by rw[HR.out,HB.out,HC.out,if_neg HQ.out]; rfl),hb⟩
  ·rw[decide_eq_false h45] at hr;simp only[Bool.false_eq_true,↓reduceIte] at hr;have HR:=Lib.hid hr; clear hr;have hb45:((s[0].toNat:Int)==45)=false:=by simpa using h45
   clear hneg hlen
   go_enter Tryz.func160,Tryz.ntmps160
   go_wp2_with fail
   go_loop [5,6] (fun n i=>∃ (k:Nat) (m:Int),k≤s.size∧i = .int .i64 k∧n = .int .i64 m ∧ -9223372036854775808≤m∧m≤9223372036854775807∧s.data.toList.all isD=(s.data.toList.drop k).all isD∧s.data.toList.foldl (Qy5 false) 0=(s.data.toList.drop k).foldl (Qy5 false) m) (fun _ i=>s.size-(intOf i).toNat)
   case atStart=>exact⟨0,0,by omega,rfl,rfl,by omega,by omega,rfl,rfl⟩
   case round =>
    obtain⟨k,m,hk,rfl,rfl,hm0,hm1,hal,hfo⟩:=hrel;have HA:=Lib.hid hal; clear hal;have HF:=Lib.hid hfo; clear hfo;by_cases hlt:k<s.size
    ·have HS1:=Lib.hid (Qan2 s k hlt);have HS2:=Lib.hid (Qakd false s k hlt m);have hwr:=Q5v (wrap64 (10*m)+((s[k].toNat:Int)-48));have HW:=Lib.hid hwr; clear hwr;generalize hck:s[k]=c at HS1 HS2 HW;have hck2:s[k]=c:=hck;clear hck;by_cases hd:(48:Int)≤(c.toNat:Int)∧(c.toNat:Int)≤57
     ·obtain⟨g1,g2⟩:=hd
      go_wp2
      go_round
      case rel=>exact⟨k+1,_,by omega,by go_num,rfl,HW.out.1,HW.out.2,by rw[HA.out,HS1.out,Q69,decide_eq_true ⟨g1,g2⟩]; rfl,by rw[HF.out,HS2.out]; rfl⟩
      case measure=>simp[intOf]; omega
     ·have hbad:s.data.toList.all isD=false:=by
       rw[HA.out,HS1.out,Q69,decide_eq_false hd]; rfl
      have HB:=Lib.hid hbad; clear hbad
      go_wp2
      all_goals
       go_ret2
       exact⟨Q5s (by rw[HR.out,HB.out]; rfl) (by rw[HR.out,HB.out]; rfl),Below.refl _ _⟩
    ·have hge:s.size≤k:=by omega
     have hz:s.data.toList.drop k=[]:=List.drop_of_length_le (by rw[← Qnn]; exact hge);have hall:s.data.toList.all isD=true:=by rw[HA.out,hz]; rfl
     have hfin:s.data.toList.foldl (Qy5 false) 0=m:=by rw[HF.out,hz]; rfl
     clear hz;have HB:=Lib.hid hall; clear hall;have HC:=Lib.hid hfin; clear hfin;by_cases hq:Qxu m=s.data.toList
     ·have hqb:(Qxu m==s.toList)=true:=by rw[Lib.toList_data]; simpa using hq
      have HQ:=Lib.hid hq; clear hq
      go_wp2_with fail
      refine(Qwd m hm0 hm1 _).mono ?_;rintro e w' ⟨rfl,hb⟩
      go_wp2_with fail
      go_ret2
      exact⟨Q5s (by rw[HR.out,HB.out,HC.out,if_pos HQ.out]; rfl) (by rw[HR.out,HB.out,HC.out,if_pos HQ.out]; rfl),hb⟩
     ·have hqb:(Qxu m==s.toList)=false:=by rw[Lib.toList_data]; simpa using hq
      have HQ:=Lib.hid hq; clear hq
      go_wp2_with fail
      refine(Qwd m hm0 hm1 _).mono ?_;rintro e w' ⟨rfl,hb⟩
      go_wp2_with fail
      go_ret2
      exact⟨Q5s (by rw[HR.out,HB.out,HC.out,if_neg HQ.out]; rfl) (by rw[HR.out,HB.out,HC.out,if_neg HQ.out]; rfl),hb⟩
theorem Qahs(l:List UInt8)(hl:l.length≤9223372036854775807):PCall Tryz.prog 160 [sV l] (.tup [.p (iV (Q1a l).1),.p (bV (Q1a l).2)]):=by
 refine PCall.ofCallsG (R :=.tuple #[.int .i64 (Q1a l).1,.bool (Q1a l).2]) (by kernel_rfl) (fun _ _=>Qasw rfl rfl) fun w us _ hs h=>?_
 obtain⟨a,rfl⟩:=us1 hs;obtain⟨_,h0'⟩:=h 0 _ a rfl rfl;rw[Qwc h0'];refine(Qaec ⟨l.toArray⟩ (by show l.toArray.size≤9223372036854775807; simpa using hl) w).mono fun e w' h=>?_
 first | exact h | exact⟨h.1,Qxt h.2⟩
end Go.Proofs.YtfgegilhjlnohaaGreat
end
