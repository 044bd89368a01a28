/- The statement TaintAnySaid: the law's function, decompiled, hands back true for every input; lifted out of its walk. -/
import Derived.Test.YtcegigccehapdaaP30
import Derived.Test.YtcegigccehapdaaAbL
namespace Go.Proofs.Ytcegigccehapdaa
open Go.ChangeShapes Go.WideShapes Go.ChangeAt Go.RowKit
open Go.ChangeMaps (setBlock shut_map_nil open_string shut_string keptBut_setBlock frozen?_setBlock heap_setBlock_same)

theorem listOf {α : Type} (c : α → List V) : ∀ es : List (List V), (∀ x ∈ es, ∃ v, x = c v) → ∃ l : List α, es = l.map c
  | [], _ => ⟨[], rfl⟩
  | x :: r, h => by
    obtain ⟨v, rfl⟩ := h x (by simp)
    obtain ⟨l, rfl⟩ := listOf c r fun y hy => h y (by simp [hy])
    exact ⟨v :: l, rfl⟩
set_option maxRecDepth 100000 in
theorem ty_bool {xs : List V} (h : Ty Try.prog 4 xs) : ∃ v : Bool, xs = cBool v ∧ True := by
  obtain ⟨n, rfl⟩ := h.asBool Try.underlying4
  exact ⟨n, rfl, trivial⟩
set_option maxRecDepth 100000 in
theorem ty_sl_bool {xs : List V} (h : Ty Try.prog 22 xs) : ∃ v : (List Bool), xs = (cSl cBool) v ∧ v.length ≤ 9223372036854775807 := by
  obtain ⟨es, rfl, h1, h2⟩ := h.asSlice Try.underlying22
  obtain ⟨l, rfl⟩ := listOf cBool es fun x hx => by
    obtain ⟨v, hv, -⟩ := ty_bool (h1 x hx)
    exact ⟨v, hv⟩
  exact ⟨l, rfl, by rw [List.length_map] at h2; exact h2⟩
set_option maxRecDepth 100000 in
theorem law_taintAny_args (x0 : V) (y0 : ArgTy Try.prog 22 x0) : PCall Try.prog 3 [x0] (.p (bV true)) := by
  obtain ⟨z0, ez0, hz0⟩ : ∃ v : (List Bool), [x0] = (cSl cBool) v ∧ v.length ≤ 9223372036854775807 := by
    rcases y0 with ⟨xs, _, _, fs, h⟩ | ⟨h, -⟩
    · rw [Try.underlying22] at h; cases h
    · exact ty_sl_bool h
  cases ez0
  have hlaw : nunciolaw30_TaintAny z0 = some true := by
    apply lawAny <;> omega
  exact nunciolaw30_TaintAny_ok z0 true hlaw
theorem fragTaintAny : Frag Try.prog [22, 4] = true := by decide +kernel
theorem laidTaintAny : laidOutB Try.prog = true := by kernel_rfl
set_option maxRecDepth 100000 in
theorem taintAny_lifted (os : Os) (started : os.Started) (H : Type) (enc : TypeId × Value → H) :
    ReturnsInHanded {} Try.checked os 3 .any (Rows.taintAnySpec.pre6 enc Try.prog Try.f3 Rows.taintAnyRow.domain false) (Rows.taintAnySpec.post enc Try.prog Try.f3 false true false false) := by
  refine returnsInHanded_of_change (C := Try.checked) Try.own started (by kernel_rfl) Try.func3
    (ChangeSpec.witness6 (enc := enc) (C := Try.checked) false ⟨#[], #[.slice none 0 0], []⟩ 8 (by kernel_rfl) (by kernel_rfl) (by kernel_rfl) (by kernel_rfl)) ?_
  intro W base args ds gs before hval0 hW hcnd _
  have hval : ∀ (j : Nat) t v, Try.f3.params[j]? = some t → args[j]? = some v → Value.okWide Try.prog W .any base t v := hval0
  have hW' := hW
  obtain ⟨p, q, hA0, hV, rfl, hfz, hnd⟩ := hW
  have hA : DataW.TrodAll enc Try.prog W 0 (fun _ => true) true Try.f3.params.toList args.toList ds p := hA0
  rw [Try.params3] at hA hval
  have hA2 := hA
  obtain ⟨v0, d0, rfl, rfl, h0⟩ := trodAll_one hA
  obtain ⟨rfl, rfl⟩ := trodVars_none hV
  obtain ⟨x0, r0, y0⟩ := arg_open fragTaintAny (by decide) (hval 0 22 v0 rfl rfl) h0
  clear hA0 hval0
  simp only [List.append_nil] at hW'
  refine ((law_taintAny_args x0 y0).out (fun _ _ => True) W #[v0] rfl (rels1 r0)).mono fun e W' ⟨u, he, hd, hg⟩ => ?_
  have hu : u = .bool true := by cases hd with | p _ _ hd => cases hd; rfl
  subst hu; subst he
  exact ⟨_, rfl, post_law2 (pv := []) hW' (fun _ _ _ => trodAll_mk1 (shut_bool Try.underlying4 _)) (trodAll_below laidTaintAny hg (of_decide_eq_true (by kernel_rfl)) hA2 (fun x hx => by simpa using hW'.lt x hx)) rfl hg⟩

theorem taintAny_holds : Rows.TaintAnySaid :=
  OpenClaim.holds_of_wide 3 Try.f3 rfl rfl rfl rfl rfl rfl rfl ⟨rfl, rfl, rfl, rfl, rfl⟩ rfl rfl rfl rfl rfl (by kernel_rfl) Try.func3 (by kernel_rfl)
    (of_decide_eq_true (by kernel_rfl)) (by unfold Func.isWrapper; first | (rw [if_pos (by decide +kernel)]; kernel_rfl) | (rw [if_neg (by decide +kernel)]; exact ⟨rfl, rfl⟩))
    (fun os started H enc _ => taintAny_lifted os started H enc)
#print axioms taintAny_holds
end Go.Proofs.Ytcegigccehapdaa
