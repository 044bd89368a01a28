/- The proof's texts, part 11 of 11: the walks by a logic in which data are by value, the plain laws, and at the end the law, for every input. -/
import Derived.Test.YtagokkpnfceidaaDoorMgParseRemarks10
import Derived.Test.YtagokkpnfceidaaDoorCards
import Derived.Test.YtagokkpnfceidaaDoorTie
import Derived.ChangeVars
import Derived.LaidLaws
import Derived.LaidMore
import Derived.Lay
import Derived.SevenTiedAt
import Derived.Stop.Joined

section
namespace Go.Proofs.YtagokkpnfceidaaDoor
open Go.ChangeShapes Go.WideShapes Go.ChangeAt Go.RowKit
open Go.ChangeMaps (setBlock shut_map_nil open_string shut_string keptBut_setBlock frozen?_setBlock heap_setBlock_same)
set_option maxRecDepth 100000 in
theorem Qts {xs:List V} (h:Ty Tryd.prog 9 xs):∃ v:List UInt8,xs=cStr v∧v.length≤9223372036854775807:=by
 obtain⟨l,rfl,hl⟩:=h.asStr Tryd.underlying9
 exact⟨l,rfl,hl⟩
set_option maxRecDepth 100000 in
theorem Q1q {xs:List V} (h:Ty Tryd.prog 4 xs):∃ v:Bool,xs=cBool v∧True:=by
 obtain⟨n,rfl⟩:=h.asBool Tryd.underlying4
 exact⟨n,rfl,trivial⟩
set_option maxRecDepth 100000 in
theorem Qkg (x0:V) (x1:V) (x2:V) (y0:ArgTy Tryd.prog 9 x0) (y1:ArgTy Tryd.prog 9 x1) (y2:ArgTy Tryd.prog 4 x2):PCall Tryd.prog 8 [x0,x1,x2] (.p (bV true)):=by
 obtain⟨z0,ez0,hz0⟩:∃ v:(List UInt8),[x0]=cStr v∧v.length≤9223372036854775807:=by
  rcases y0 with ⟨xs,_,_,fs,h⟩ | ⟨h,-⟩
  ·rw[Tryd.underlying9] at h; cases h
  ·exact Qts h
 cases ez0
 obtain⟨z1,ez1,hz1⟩:∃ v:(List UInt8),[x1]=cStr v∧v.length≤9223372036854775807:=by
  rcases y1 with ⟨xs,_,_,fs,h⟩ | ⟨h,-⟩
  ·rw[Tryd.underlying9] at h; cases h
  ·exact Qts h
 cases ez1
 obtain⟨z2,ez2,hz2⟩:∃ v:Bool,[x2]=cBool v∧True:=by
  rcases y2 with ⟨xs,_,_,fs,h⟩ | ⟨h,-⟩
  ·rw[Tryd.underlying4] at h; cases h
  ·exact Q1q h
 cases ez2
 have hlaw:Qbv z0 z1 z2=some true:=by
  apply lawParseRemarks<;>omega
 exact Qhw z0 z1 z2 true hlaw
theorem Qvb {H:Type} {enc:TypeId×Value→H} {a:Assume} {C:Checked} {os:Os} {f:FuncId} {fn:Func} {s:ChangeSpec} {conds:List PathCond} {apart fresh handsOn again:Bool} {X:World→Array Value→Prop}
  (own:ownKnob C.prog.godebug=none) (started:os.Started) (noInit:C.prog.inits.idxOf? f=none) (hfn:C.prog.funcs[f]? = some fn)
  (witness:∃ (w:World) (tape:Tape) (i:Input),w.os=os∧(w.forCall tape i).Shaped C.prog∧i.vars=[]∧Input.okWide C.prog (w.forCall tape i) .any w.heap.size f i ∧
   ((s.pre enc C.prog fn conds apart (w.forCall tape i).memory i.args∧X (w.forCall tape i).memory i.args)∧sizedMet enc C.prog fn (OpenSpec.ofChange s) apart (w.forCall tape i).memory i.args)∧a.holds C.prog (lone (Frame.enter C.prog f i.args .normal) [] (w.forCall tape i)))
  (contract:∀ (W:World) (base:Nat) (args:Array Value) (ds gs:List (DataW H)) (before:List MemPlace),
   (∀ (j:Nat) t v,fn.params[j]? = some t→args[j]? = some v→Value.okWide C.prog W .any base t v) →
   DataW.Whole enc C.prog fn.params.toList s.vars apart W args.toList ds gs before →
   conds.all (PathCond.test C.prog ⟨fn.params.toList,ds,s.plain.varTypes C.prog,gs⟩)=true →
   W.ShapedOpen C.prog→(∃ w0:World,w0.heap=W.heap∧X w0 args) →
   Calls C.prog f args W fun e W' => ∃ v,e = .returned v∧s.post enc C.prog fn apart fresh handsOn again W args v W') :
  ReturnsInHanded a C os f .any (fun w args=>(s.pre enc C.prog fn conds apart w args∧X w args)∧sizedMet enc C.prog fn (OpenSpec.ofChange s) apart w args) (s.post enc C.prog fn apart fresh handsOn again):=by
 refine returnsInHanded_of_calls own started noInit witness ?_
 intro w tape i _ hsh _ hok hpre _
 obtain⟨_,_,_,fn', hfn', _,_,_,_,hval⟩:=hok
 have e:fn' = fn:=Option.some.inj (hfn'.symm.trans hfn)
 subst e
 obtain⟨⟨⟨ds,gs,before,hw,hc⟩,hx⟩,hz⟩:=hpre
 have hw' := DataW.Whole.of_heap (w' := w.forCall tape i) (by rfl) hw
 refine(contract (w.forCall tape i) w.heap.size i.args ds gs before hval hw' hc hsh ⟨(w.forCall tape i).memory,rfl,hx⟩).mono fun e W' ⟨v,he,hp⟩=>?_
 subst he
 exact ChangeSpec.post_blind hp
theorem fragParseRemarks:Frag Tryd.prog [9,4]=true:=by decide +kernel
theorem laidParseRemarks:laidOutB Tryd.prog=true:=by kernel_rfl
set_option maxRecDepth 100000 in
theorem Qlr (os:Os) (started:os.Started) (H:Type) (enc:TypeId×Value→H) :
  ReturnsInHanded {} Tryd.checked os 8 .any (fun w args=>(Rows.parseRemarksSpec.pre enc Tryd.prog Tryd.f8 Rows.parseRemarksRow.domain false w args∧laidMetH Tryd.prog Rows.parseRemarksRow.laid w)∧sizedMet enc Tryd.prog Tryd.f8 (OpenSpec.ofChange Rows.parseRemarksSpec) false w args) (Rows.parseRemarksSpec.post enc Tryd.prog Tryd.f8 false true false false):=by
 refine Qvb (C:=Tryd.checked) (X:=fun w _=>laidMetH Tryd.prog Rows.parseRemarksRow.laid w) Tryd.own started (by kernel_rfl) Tryd.func8
  (ChangeSpec.witness_shaped (enc:=enc) (C:=Tryd.checked) (os:=os) (X:=fun w _=>laidMetH Tryd.prog Rows.parseRemarksRow.laid w) false (World.laidAll Tryd.prog os Rows.parseRemarksRow.laid) #[.string ByteArray.empty,.string ByteArray.empty,.bool false] 8 (World.laidAll_os _ _ _)
   (World.shaped_of_ZipB (by kernel_rfl) (by kernel_rfl)) (by kernel_rfl) (by kernel_rfl) (by kernel_rfl)
   (by rw[MakeChecks.laidMetH_plain _ _ _ (by kernel_rfl)]; exact laidMet_laidAll _ (by kernel_rfl) (by kernel_rfl))) ?_
 intro W base args ds gs before hval0 hW hcnd hsh ⟨w0,hh0,hx0⟩
 have hval:∀ (j:Nat) t v,Tryd.f8.params[j]? = some t→args[j]? = some v→Value.okWide Tryd.prog W .any base t v:=hval0
 have hW' := hW
 obtain⟨p,q,hA0,hV,rfl,hfz,hnd⟩:=hW
 have hA:DataW.TrodAll enc Tryd.prog W 0 (fun _=>true) true Tryd.f8.params.toList args.toList ds p:=hA0
 rw[Tryd.params8] at hA hval
 have hA2:=hA
 obtain⟨v0,v1,v2,d0,d1,d2,p0,p1,p2,rfl,rfl,rfl,h0,h1,h2⟩:=trodAll_three hA
 obtain⟨rfl,rfl⟩:=trodVars_none hV
 obtain⟨x0,r0,y0⟩:=Qr7 fragParseRemarks (by decide) (hval 0 9 v0 rfl rfl) h0
 obtain⟨x1,r1,y1⟩:=Qr7 fragParseRemarks (by decide) (hval 1 9 v1 rfl rfl) h1
 obtain⟨x2,r2,y2⟩:=Qr7 fragParseRemarks (by decide) (hval 2 4 v2 rfl rfl) h2
 clear hA0 hval0
 simp only[List.append_nil] at hW'
 have hgl:GlobOk (fun _ _=>True) W:=⟨fun b hb=>by
  obtain⟨m,hm⟩:∃ m,W.cell? ⟨1,0,none⟩=some (.int .i64 m):=Tryd.laysM219.s1_3 W hsh
  simp only[globsL,List.mem_singleton] at hb
  subst hb
  exact⟨m,trivial,hm⟩,fun x hx=>by simp[tabsL] at hx⟩
 refine((Qkg x0 x1 x2 y0 y1 y2).out (fun _ _=>True) W #[v0,v1,v2] hgl rfl (rels3 r0 r1 r2)).mono fun e W' ⟨u,he,hd,hg⟩=>?_
 have hu:u = .bool true:=by cases hd with | p _ _ hd=>cases hd; rfl
 subst hu; subst he
 exact⟨_,rfl,Qzv (pv:=[]) hW' (fun _ _ _=>trodAll_mk1 (shut_bool Tryd.underlying4 _)) (Qmk laidParseRemarks hg (of_decide_eq_true (by kernel_rfl)) hA2 (fun x hx=>by simpa using hW'.lt x hx)) rfl hg⟩
theorem Qjq:Rows.ParseRemarksSaid :=
 OpenClaim.holds_of_wide 8 Tryd.f8 rfl rfl rfl rfl rfl rfl rfl ⟨rfl,rfl,rfl,rfl,rfl⟩ rfl rfl rfl rfl rfl (by kernel_rfl) Tryd.func8 (by kernel_rfl)
  (of_decide_eq_true (by kernel_rfl)) (by unfold Func.isWrapper; first | (rw[if_pos (by decide +kernel)]; kernel_rfl) | (rw[if_neg (by decide +kernel)]; exact⟨rfl,rfl⟩))
  (fun os started H enc _=>Qlr os started H enc)
theorem parseRemarks_holds:Rows.ParseRemarksCardSaid :=
 Claim7.holds_tied_plain_at .later [] [.data,.pinned] true (true, "e223de49d1bbbce65b197cdbd0d8361dd8781a1917e54ab3fe65b8ceb1e69a1d") true Qjq (fun _ h=>by cases h) (by kernel_rfl) (fun _ h=>by cases h) parseRemarks_row_tie rfl ⟨rfl,rfl⟩ (by kernel_rfl) rfl
  (fun f fn hf hfn=>by
   obtain rfl:f=8:=Option.some.inj ((show Tryd.prog.funcNamed "nuncio/nunciolaw20.ParseRemarks" = some 8 by kernel_rfl).symm.trans hf) |>.symm
   obtain rfl:fn=Tryd.f8:=(Option.some.inj (Tryd.func8.symm.trans hfn)).symm
   exact⟨by kernel_rfl,fun j t ht=>by
    rw[Tryd.params8] at ht
    have hm:t ∈ [9,9,4]:=by simpa using Array.mem_of_getElem? ht
    have hall:([9,9,4].all fun u => !Tryd.prog.wantsStandIn u)=true:=by kernel_rfl
    exact(show Tryd.prog.wantsStandIn t=false by simpa using List.all_eq_true.1 hall t hm)⟩)
  (by kernel_rfl)
#print axioms parseRemarks_holds
end Go.Proofs.YtagokkpnfceidaaDoor
end
