/- The statement SchemaLongSaid: the law's function, decompiled, hands back true for every input; lifted out of its walk. -/
import Derived.Test.YtcegigccehapdaaP16c
import Derived.Test.YtcegigccehapdaaAbL
namespace Go.Proofs.Ytcegigccehapdaa
open Go.ChangeShapes Go.WideShapes Go.ChangeAt Go.RowKit
open Go.ChangeMaps (setBlock shut_map_nil open_string shut_string keptBut_setBlock frozen?_setBlock heap_setBlock_same)

theorem listOf {α : Type} (c : α → List V) : ∀ es : List (List V), (∀ x ∈ es, ∃ v, x = c v) → ∃ l : List α, es = l.map c
  | [], _ => ⟨[], rfl⟩
  | x :: r, h => by
    obtain ⟨v, rfl⟩ := h x (by simp)
    obtain ⟨l, rfl⟩ := listOf c r fun y hy => h y (by simp [hy])
    exact ⟨v :: l, rfl⟩
set_option maxRecDepth 100000 in
theorem ty_uint16 {xs : List V} (h : Ty Try.prog 40 xs) : ∃ v : Int, xs = (cNum .u16) v ∧ 0 ≤ v ∧ v ≤ 65535 := by
  obtain ⟨n, rfl, hw⟩ := h.asInt Try.underlying40
  refine ⟨n, rfl, ?_⟩
  simp [Lit.wf, IntKind.min, IntKind.max, IntKind.signed, IntKind.bits] at hw
  omega
set_option maxRecDepth 100000 in
theorem law_schemaLong_args (x0 : V) (y0 : ArgTy Try.prog 40 x0) : PCall Try.prog 5 [x0] (.p (bV true)) := by
  obtain ⟨z0, ez0, hz0⟩ : ∃ v : Int, [x0] = (cNum .u16) v ∧ 0 ≤ v ∧ v ≤ 65535 := by
    rcases y0 with ⟨xs, _, _, fs, h⟩ | ⟨h, -⟩
    · rw [Try.underlying40] at h; cases h
    · exact ty_uint16 h
  cases ez0
  have hlaw : nunciolaw16_SchemaLong z0 = some true := by
    apply lawLong <;> omega
  exact nunciolaw16_SchemaLong_ok z0 true hlaw
theorem fragSchemaLong : Frag Try.prog [40] = true := by decide +kernel
theorem laidSchemaLong : laidOutB Try.prog = true := by kernel_rfl
set_option maxRecDepth 100000 in
theorem schemaLong_lifted (os : Os) (started : os.Started) (H : Type) (enc : TypeId × Value → H) :
    ReturnsInHanded {} Try.checked os 5 .any (Rows.schemaLongSpec.pre6 enc Try.prog Try.f5 Rows.schemaLongRow.domain false) (Rows.schemaLongSpec.post enc Try.prog Try.f5 false true false false) := by
  refine returnsInHanded_of_change (C := Try.checked) Try.own started (by kernel_rfl) Try.func5
    (ChangeSpec.witness6 (enc := enc) (C := Try.checked) false ⟨#[], #[.int .u16 0], []⟩ 8 (by kernel_rfl) (by kernel_rfl) (by kernel_rfl) (by kernel_rfl)) ?_
  intro W base args ds gs before hval0 hW hcnd _
  have hval : ∀ (j : Nat) t v, Try.f5.params[j]? = some t → args[j]? = some v → Value.okWide Try.prog W .any base t v := hval0
  have hW' := hW
  obtain ⟨p, q, hA0, hV, rfl, hfz, hnd⟩ := hW
  have hA : DataW.TrodAll enc Try.prog W 0 (fun _ => true) true Try.f5.params.toList args.toList ds p := hA0
  rw [Try.params5] at hA hval
  have hA2 := hA
  obtain ⟨v0, d0, rfl, rfl, h0⟩ := trodAll_one hA
  obtain ⟨rfl, rfl⟩ := trodVars_none hV
  obtain ⟨x0, r0, y0⟩ := arg_open fragSchemaLong (by decide) (hval 0 40 v0 rfl rfl) h0
  clear hA0 hval0
  simp only [List.append_nil] at hW'
  refine ((law_schemaLong_args x0 y0).out (fun _ _ => True) W #[v0] rfl (rels1 r0)).mono fun e W' ⟨u, he, hd, hg⟩ => ?_
  have hu : u = .bool true := by cases hd with | p _ _ hd => cases hd; rfl
  subst hu; subst he
  exact ⟨_, rfl, post_law2 (pv := []) hW' (fun _ _ _ => trodAll_mk1 (shut_bool Try.underlying4 _)) (trodAll_below laidSchemaLong hg (of_decide_eq_true (by kernel_rfl)) hA2 (fun x hx => by simpa using hW'.lt x hx)) rfl hg⟩

theorem schemaLong_holds : Rows.SchemaLongSaid :=
  OpenClaim.holds_of_wide 5 Try.f5 rfl rfl rfl rfl rfl rfl rfl ⟨rfl, rfl, rfl, rfl, rfl⟩ rfl rfl rfl rfl rfl (by kernel_rfl) Try.func5 (by kernel_rfl)
    (of_decide_eq_true (by kernel_rfl)) (by unfold Func.isWrapper; first | (rw [if_pos (by decide +kernel)]; kernel_rfl) | (rw [if_neg (by decide +kernel)]; exact ⟨rfl, rfl⟩))
    (fun os started H enc _ => schemaLong_lifted os started H enc)
#print axioms schemaLong_holds
end Go.Proofs.Ytcegigccehapdaa
