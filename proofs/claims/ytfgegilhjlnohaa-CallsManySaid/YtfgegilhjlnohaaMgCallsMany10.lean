/- The proof's texts, part 10 of 10: the walks by a logic in which data are by value, the plain laws, and at the end the law, for every input. -/
import Derived.Test.YtfgegilhjlnohaaMgCallsMany9
import Derived.HandedShaped

section
namespace Go.Proofs.Ytfgegilhjlnohaa
open Go.ChangeShapes Go.WideShapes Go.ChangeAt Go.RowKit
open Go.ChangeMaps (setBlock shut_map_nil open_string shut_string keptBut_setBlock frozen?_setBlock heap_setBlock_same)
set_option maxRecDepth 100000 in
theorem Qyi {xs:List V} (h:Ty Try.prog 5 xs):∃ v:Int,xs=(cNum .u8) v∧0≤v∧v≤255:=by
 obtain⟨n,rfl,hw⟩:=h.asInt Try.underlying5
 refine⟨n,rfl,?_⟩
 simp[Lit.wf,IntKind.min,IntKind.max,IntKind.signed,IntKind.bits] at hw
 omega
set_option maxRecDepth 100000 in
theorem Qle (x0:V) (y0:ArgTy Try.prog 5 x0):PCall Try.prog 4 [x0] (.p (bV true)):=by
 obtain⟨z0,ez0,hz0⟩:∃ v:Int,[x0]=(cNum .u8) v∧0≤v∧v≤255:=by
  rcases y0 with ⟨xs,_,_,fs,h⟩ | ⟨h,-⟩
  ·rw[Try.underlying5] at h; cases h
  ·exact Qyi h
 cases ez0
 have hlaw:Qb2 z0=some true:=by
  apply lawCallsMany<;>first | omega | exact hz0.1 | exact hz0.2 | exact hz0
 exact Qh5 z0 true hlaw
theorem fragCallsMany:Frag Try.prog [5]=true:=by decide +kernel
theorem laidCallsMany:laidOutB Try.prog=true:=by kernel_rfl
set_option maxRecDepth 100000 in
theorem Qmp (os:Os) (started:os.Started) (H:Type) (enc:TypeId×Value→H) :
  ReturnsInHanded {} Try.checked os 4 .any (Rows.callsManySpec.pre6 enc Try.prog Try.f4 Rows.callsManyRow.domain false) (Rows.callsManySpec.post enc Try.prog Try.f4 false true false false):=by
 refine returnsInHanded_of_change_shaped (C:=Try.checked) Try.own started (by kernel_rfl) Try.func4
  (ChangeSpec.witness6 (enc:=enc) (C:=Try.checked) false ⟨#[],#[.int .u8 0],[]⟩ 8 (by kernel_rfl) (by kernel_rfl) (by kernel_rfl) (by kernel_rfl)) ?_
 intro W base args ds gs before hval0 hW hcnd _ hsh _
 have hval:∀ (j:Nat) t v,Try.f4.params[j]? = some t→args[j]? = some v→Value.okWide Try.prog W .any base t v:=hval0
 have hW' := hW
 obtain⟨p,q,hA0,hV,rfl,hfz,hnd⟩:=hW
 have hA:DataW.TrodAll enc Try.prog W 0 (fun _=>true) true Try.f4.params.toList args.toList ds p:=hA0
 rw[Try.params4] at hA hval
 have hA2:=hA
 obtain⟨v0,d0,rfl,rfl,h0⟩:=trodAll_one hA
 obtain⟨rfl,rfl⟩:=trodVars_none hV
 obtain⟨x0,r0,y0⟩:=Qyh fragCallsMany (by decide) (hval 0 5 v0 rfl rfl) h0
 clear hA0 hval0
 simp only[List.append_nil] at hW'
 have hgl:GlobOk (fun _ _=>True) W:=⟨fun b hb=>by
  obtain⟨m,hm⟩:∃ m,W.cell? ⟨0,0,none⟩=some (.int .i64 m):=Try.laysM219.s1_3 W hsh
  simp only[globsL,List.mem_singleton] at hb
  subst hb
  exact⟨m,trivial,hm⟩,fun x hx=>by simp[tabsL] at hx⟩
 refine((Qle x0 y0).out (fun _ _=>True) W #[v0] hgl rfl (rels1 r0)).mono fun e W' ⟨u,he,hd,hg⟩=>?_
 have hu:u = .bool true:=by cases hd with | p _ _ hd=>cases hd; rfl
 subst hu; subst he
 exact⟨_,rfl,Qxl (pv:=[]) hW' (fun _ _ _=>trodAll_mk1 (shut_bool Try.underlying4 _)) (Qld laidCallsMany hg (of_decide_eq_true (by kernel_rfl)) hA2 (fun x hx=>by simpa using hW'.lt x hx)) rfl hg⟩
theorem callsMany_holds:Rows.CallsManySaid :=
 OpenClaim.holds_of_wide 4 Try.f4 rfl rfl rfl rfl rfl rfl rfl ⟨rfl,rfl,rfl,rfl,rfl⟩ rfl rfl rfl rfl rfl (by kernel_rfl) Try.func4 (by kernel_rfl)
  (of_decide_eq_true (by kernel_rfl)) (by unfold Func.isWrapper; first | (rw[if_pos (by decide +kernel)]; kernel_rfl) | (rw[if_neg (by decide +kernel)]; exact⟨rfl,rfl⟩))
  (fun os started H enc _=>Qmp os started H enc)
#print axioms callsMany_holds
end Go.Proofs.Ytfgegilhjlnohaa
end
