/- The statement TreeBoundsSaid: the law's function, decompiled, hands back true for every input; lifted out of its walk. -/
import Derived.Test.YtlhjieapkcnghaaP19h
import Derived.Test.YtlhjieapkcnghaaAbL
import Derived.HandedShaped
namespace Go.Proofs.Ytlhjieapkcnghaa
open Go.ChangeShapes Go.WideShapes Go.ChangeAt Go.RowKit
open Go.ChangeMaps (setBlock shut_map_nil open_string shut_string keptBut_setBlock frozen?_setBlock heap_setBlock_same)

theorem listOf {α : Type} (c : α → List V) : ∀ es : List (List V), (∀ x ∈ es, ∃ v, x = c v) → ∃ l : List α, es = l.map c
  | [], _ => ⟨[], rfl⟩
  | x :: r, h => by
    obtain ⟨v, rfl⟩ := h x (by simp)
    obtain ⟨l, rfl⟩ := listOf c r fun y hy => h y (by simp [hy])
    exact ⟨v :: l, rfl⟩
set_option maxRecDepth 100000 in
theorem ty_uint8 {xs : List V} (h : Ty Try.prog 5 xs) : ∃ v : Int, xs = (cNum .u8) v ∧ 0 ≤ v ∧ v ≤ 255 := by
  obtain ⟨n, rfl, hw⟩ := h.asInt Try.underlying5
  refine ⟨n, rfl, ?_⟩
  simp [Lit.wf, IntKind.min, IntKind.max, IntKind.signed, IntKind.bits] at hw
  omega
set_option maxRecDepth 100000 in
theorem ty_uint16 {xs : List V} (h : Ty Try.prog 48 xs) : ∃ v : Int, xs = (cNum .u16) v ∧ 0 ≤ v ∧ v ≤ 65535 := by
  obtain ⟨n, rfl, hw⟩ := h.asInt Try.underlying48
  refine ⟨n, rfl, ?_⟩
  simp [Lit.wf, IntKind.min, IntKind.max, IntKind.signed, IntKind.bits] at hw
  omega
set_option maxRecDepth 100000 in
theorem ty_bool {xs : List V} (h : Ty Try.prog 4 xs) : ∃ v : Bool, xs = cBool v ∧ True := by
  obtain ⟨n, rfl⟩ := h.asBool Try.underlying4
  exact ⟨n, rfl, trivial⟩
set_option maxRecDepth 100000 in
theorem law_treeBounds_args (x0 : V) (x1 : V) (x2 : V) (y0 : ArgTy Try.prog 5 x0) (y1 : ArgTy Try.prog 48 x1) (y2 : ArgTy Try.prog 4 x2) : PCall Try.prog 8 [x0, x1, x2] (.p (bV true)) := by
  obtain ⟨z0, ez0, hz0⟩ : ∃ v : Int, [x0] = (cNum .u8) v ∧ 0 ≤ v ∧ v ≤ 255 := by
    rcases y0 with ⟨xs, _, _, fs, h⟩ | ⟨h, -⟩
    · rw [Try.underlying5] at h; cases h
    · exact ty_uint8 h
  cases ez0
  obtain ⟨z1, ez1, hz1⟩ : ∃ v : Int, [x1] = (cNum .u16) v ∧ 0 ≤ v ∧ v ≤ 65535 := by
    rcases y1 with ⟨xs, _, _, fs, h⟩ | ⟨h, -⟩
    · rw [Try.underlying48] at h; cases h
    · exact ty_uint16 h
  cases ez1
  obtain ⟨z2, ez2, hz2⟩ : ∃ v : Bool, [x2] = cBool v ∧ True := by
    rcases y2 with ⟨xs, _, _, fs, h⟩ | ⟨h, -⟩
    · rw [Try.underlying4] at h; cases h
    · exact ty_bool h
  cases ez2
  have hlaw : nunciolaw19_TreeBounds z0 z1 z2 = some true := by
    apply lawTreeBounds <;> omega
  exact nunciolaw19_TreeBounds_ok z0 z1 z2 true hlaw
theorem fragTreeBounds : Frag Try.prog [5, 48, 4] = true := by decide +kernel
theorem laidTreeBounds : laidOutB Try.prog = true := by kernel_rfl
set_option maxRecDepth 100000 in
theorem treeBounds_lifted (os : Os) (started : os.Started) (H : Type) (enc : TypeId × Value → H) :
    ReturnsInHanded {} Try.checked os 8 .any (Rows.treeBoundsSpec.pre6 enc Try.prog Try.f8 Rows.treeBoundsRow.domain false) (Rows.treeBoundsSpec.post enc Try.prog Try.f8 false true false false) := by
  refine returnsInHanded_of_change_shaped (C := Try.checked) Try.own started (by kernel_rfl) Try.func8
    (ChangeSpec.witness6 (enc := enc) (C := Try.checked) false ⟨#[], #[.int .u8 0, .int .u16 0, .bool false], []⟩ 8 (by kernel_rfl) (by kernel_rfl) (by kernel_rfl) (by kernel_rfl)) ?_
  intro W base args ds gs before hval0 hW hcnd _ hsh _
  have hval : ∀ (j : Nat) t v, Try.f8.params[j]? = some t → args[j]? = some v → Value.okWide Try.prog W .any base t v := hval0
  have hW' := hW
  obtain ⟨p, q, hA0, hV, rfl, hfz, hnd⟩ := hW
  have hA : DataW.TrodAll enc Try.prog W 0 (fun _ => true) true Try.f8.params.toList args.toList ds p := hA0
  rw [Try.params8] at hA hval
  have hA2 := hA
  obtain ⟨v0, v1, v2, d0, d1, d2, p0, p1, p2, rfl, rfl, rfl, h0, h1, h2⟩ := trodAll_three hA
  obtain ⟨rfl, rfl⟩ := trodVars_none hV
  obtain ⟨x0, r0, y0⟩ := arg_open fragTreeBounds (by decide) (hval 0 5 v0 rfl rfl) h0
  obtain ⟨x1, r1, y1⟩ := arg_open fragTreeBounds (by decide) (hval 1 48 v1 rfl rfl) h1
  obtain ⟨x2, r2, y2⟩ := arg_open fragTreeBounds (by decide) (hval 2 4 v2 rfl rfl) h2
  clear hA0 hval0
  simp only [List.append_nil] at hW'
  have hgl : GlobOk (fun _ _ => True) W := fun b hb => by
    obtain ⟨m, hm⟩ : ∃ m, W.cell? ⟨0, 0, none⟩ = some (.int .i64 m) := Try.laysM219.s1_3 W hsh
    simp only [globsL, List.mem_singleton] at hb
    subst hb
    exact ⟨m, trivial, hm⟩
  refine ((law_treeBounds_args x0 x1 x2 y0 y1 y2).out (fun _ _ => True) W #[v0, v1, v2] hgl rfl (rels3 r0 r1 r2)).mono fun e W' ⟨u, he, hd, hg⟩ => ?_
  have hu : u = .bool true := by cases hd with | p _ _ hd => cases hd; rfl
  subst hu; subst he
  exact ⟨_, rfl, post_law2 (pv := []) hW' (fun _ _ _ => trodAll_mk1 (shut_bool Try.underlying4 _)) (trodAll_below laidTreeBounds hg (of_decide_eq_true (by kernel_rfl)) hA2 (fun x hx => by simpa using hW'.lt x hx)) rfl hg⟩

theorem treeBounds_holds : Rows.TreeBoundsSaid :=
  OpenClaim.holds_of_wide 8 Try.f8 rfl rfl rfl rfl rfl rfl rfl ⟨rfl, rfl, rfl, rfl, rfl⟩ rfl rfl rfl rfl rfl (by kernel_rfl) Try.func8 (by kernel_rfl)
    (of_decide_eq_true (by kernel_rfl)) (by unfold Func.isWrapper; first | (rw [if_pos (by decide +kernel)]; kernel_rfl) | (rw [if_neg (by decide +kernel)]; exact ⟨rfl, rfl⟩))
    (fun os started H enc _ => treeBounds_lifted os started H enc)
#print axioms treeBounds_holds
end Go.Proofs.Ytlhjieapkcnghaa
