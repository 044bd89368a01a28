/- The statement SchemaMakesSaid: the law's function, decompiled, hands back true for every input; lifted out of its walk. -/
import Derived.Test.YtcegigccehapdaaP16c
import Derived.Test.YtcegigccehapdaaAbL
namespace Go.Proofs.Ytcegigccehapdaa
open Go.ChangeShapes Go.WideShapes Go.ChangeAt Go.RowKit
open Go.ChangeMaps (setBlock shut_map_nil open_string shut_string keptBut_setBlock frozen?_setBlock heap_setBlock_same)

theorem listOf {α : Type} (c : α → List V) : ∀ es : List (List V), (∀ x ∈ es, ∃ v, x = c v) → ∃ l : List α, es = l.map c
  | [], _ => ⟨[], rfl⟩
  | x :: r, h => by
    obtain ⟨v, rfl⟩ := h x (by simp)
    obtain ⟨l, rfl⟩ := listOf c r fun y hy => h y (by simp [hy])
    exact ⟨v :: l, rfl⟩
set_option maxRecDepth 100000 in
theorem ty_string {xs : List V} (h : Ty Try.prog 9 xs) : ∃ v : List UInt8, xs = cStr v ∧ v.length ≤ 9223372036854775807 := by
  obtain ⟨l, rfl, hl⟩ := h.asStr Try.underlying9
  exact ⟨l, rfl, hl⟩
set_option maxRecDepth 100000 in
theorem ty_int {xs : List V} (h : Ty Try.prog 3 xs) : ∃ v : Int, xs = cInt v ∧ -9223372036854775808 ≤ v ∧ v ≤ 9223372036854775807 := by
  obtain ⟨n, rfl, hw⟩ := h.asInt Try.underlying3
  refine ⟨n, rfl, ?_⟩
  simp [Lit.wf, IntKind.min, IntKind.max, IntKind.signed, IntKind.bits] at hw
  omega
set_option maxRecDepth 100000 in
theorem ty_bool {xs : List V} (h : Ty Try.prog 4 xs) : ∃ v : Bool, xs = cBool v ∧ True := by
  obtain ⟨n, rfl⟩ := h.asBool Try.underlying4
  exact ⟨n, rfl, trivial⟩
set_option maxRecDepth 100000 in
theorem law_schemaMakes_args (x0 : V) (x1 : V) (x2 : V) (x3 : V) (y0 : ArgTy Try.prog 9 x0) (y1 : ArgTy Try.prog 9 x1) (y2 : ArgTy Try.prog 3 x2) (y3 : ArgTy Try.prog 4 x3) : PCall Try.prog 7 [x0, x1, x2, x3] (.p (bV true)) := by
  obtain ⟨z0, ez0, hz0⟩ : ∃ v : (List UInt8), [x0] = cStr v ∧ v.length ≤ 9223372036854775807 := by
    rcases y0 with ⟨xs, _, _, fs, h⟩ | ⟨h, -⟩
    · rw [Try.underlying9] at h; cases h
    · exact ty_string h
  cases ez0
  obtain ⟨z1, ez1, hz1⟩ : ∃ v : (List UInt8), [x1] = cStr v ∧ v.length ≤ 9223372036854775807 := by
    rcases y1 with ⟨xs, _, _, fs, h⟩ | ⟨h, -⟩
    · rw [Try.underlying9] at h; cases h
    · exact ty_string h
  cases ez1
  obtain ⟨z2, ez2, hz2⟩ : ∃ v : Int, [x2] = cInt v ∧ -9223372036854775808 ≤ v ∧ v ≤ 9223372036854775807 := by
    rcases y2 with ⟨xs, _, _, fs, h⟩ | ⟨h, -⟩
    · rw [Try.underlying3] at h; cases h
    · exact ty_int h
  cases ez2
  obtain ⟨z3, ez3, hz3⟩ : ∃ v : Bool, [x3] = cBool v ∧ True := by
    rcases y3 with ⟨xs, _, _, fs, h⟩ | ⟨h, -⟩
    · rw [Try.underlying4] at h; cases h
    · exact ty_bool h
  cases ez3
  have hlaw : nunciolaw16_SchemaMakes z0 z1 z2 z3 = some true := by
    apply lawMakes <;> omega
  exact nunciolaw16_SchemaMakes_ok z0 z1 z2 z3 true hlaw
theorem fragSchemaMakes : Frag Try.prog [9, 3, 4] = true := by decide +kernel
theorem laidSchemaMakes : laidOutB Try.prog = true := by kernel_rfl
set_option maxRecDepth 100000 in
theorem schemaMakes_lifted (os : Os) (started : os.Started) (H : Type) (enc : TypeId × Value → H) :
    ReturnsInHanded {} Try.checked os 7 .any (Rows.schemaMakesSpec.pre6 enc Try.prog Try.f7 Rows.schemaMakesRow.domain false) (Rows.schemaMakesSpec.post enc Try.prog Try.f7 false true false false) := by
  refine returnsInHanded_of_change (C := Try.checked) Try.own started (by kernel_rfl) Try.func7
    (ChangeSpec.witness6 (enc := enc) (C := Try.checked) false ⟨#[], #[.string ByteArray.empty, .string ByteArray.empty, .int .i64 0, .bool false], []⟩ 8 (by kernel_rfl) (by kernel_rfl) (by kernel_rfl) (by kernel_rfl)) ?_
  intro W base args ds gs before hval0 hW hcnd _
  have hval : ∀ (j : Nat) t v, Try.f7.params[j]? = some t → args[j]? = some v → Value.okWide Try.prog W .any base t v := hval0
  have hW' := hW
  obtain ⟨p, q, hA0, hV, rfl, hfz, hnd⟩ := hW
  have hA : DataW.TrodAll enc Try.prog W 0 (fun _ => true) true Try.f7.params.toList args.toList ds p := hA0
  rw [Try.params7] at hA hval
  have hA2 := hA
  obtain ⟨v0, v1, v2, v3, d0, d1, d2, d3, p0, p1, p2, p3, rfl, rfl, rfl, h0, h1, h2, h3⟩ := trodAll_four hA
  obtain ⟨rfl, rfl⟩ := trodVars_none hV
  obtain ⟨x0, r0, y0⟩ := arg_open fragSchemaMakes (by decide) (hval 0 9 v0 rfl rfl) h0
  obtain ⟨x1, r1, y1⟩ := arg_open fragSchemaMakes (by decide) (hval 1 9 v1 rfl rfl) h1
  obtain ⟨x2, r2, y2⟩ := arg_open fragSchemaMakes (by decide) (hval 2 3 v2 rfl rfl) h2
  obtain ⟨x3, r3, y3⟩ := arg_open fragSchemaMakes (by decide) (hval 3 4 v3 rfl rfl) h3
  clear hA0 hval0
  simp only [List.append_nil] at hW'
  refine ((law_schemaMakes_args x0 x1 x2 x3 y0 y1 y2 y3).out (fun _ _ => True) W #[v0, v1, v2, v3] rfl (rels4 r0 r1 r2 r3)).mono fun e W' ⟨u, he, hd, hg⟩ => ?_
  have hu : u = .bool true := by cases hd with | p _ _ hd => cases hd; rfl
  subst hu; subst he
  exact ⟨_, rfl, post_law2 (pv := []) hW' (fun _ _ _ => trodAll_mk1 (shut_bool Try.underlying4 _)) (trodAll_below laidSchemaMakes hg (of_decide_eq_true (by kernel_rfl)) hA2 (fun x hx => by simpa using hW'.lt x hx)) rfl hg⟩

theorem schemaMakes_holds : Rows.SchemaMakesSaid :=
  OpenClaim.holds_of_wide 7 Try.f7 rfl rfl rfl rfl rfl rfl rfl ⟨rfl, rfl, rfl, rfl, rfl⟩ rfl rfl rfl rfl rfl (by kernel_rfl) Try.func7 (by kernel_rfl)
    (of_decide_eq_true (by kernel_rfl)) (by unfold Func.isWrapper; first | (rw [if_pos (by decide +kernel)]; kernel_rfl) | (rw [if_neg (by decide +kernel)]; exact ⟨rfl, rfl⟩))
    (fun os started H enc _ => schemaMakes_lifted os started H enc)
#print axioms schemaMakes_holds
end Go.Proofs.Ytcegigccehapdaa
