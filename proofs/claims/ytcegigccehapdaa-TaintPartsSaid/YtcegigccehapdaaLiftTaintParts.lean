/- The statement TaintPartsSaid: the law's function, decompiled, hands back true for every input; lifted out of its walk. -/
import Derived.Test.YtcegigccehapdaaP30
import Derived.Test.YtcegigccehapdaaAbL
namespace Go.Proofs.Ytcegigccehapdaa
open Go.ChangeShapes Go.WideShapes Go.ChangeAt Go.RowKit
open Go.ChangeMaps (setBlock shut_map_nil open_string shut_string keptBut_setBlock frozen?_setBlock heap_setBlock_same)

theorem listOf {α : Type} (c : α → List V) : ∀ es : List (List V), (∀ x ∈ es, ∃ v, x = c v) → ∃ l : List α, es = l.map c
  | [], _ => ⟨[], rfl⟩
  | x :: r, h => by
    obtain ⟨v, rfl⟩ := h x (by simp)
    obtain ⟨l, rfl⟩ := listOf c r fun y hy => h y (by simp [hy])
    exact ⟨v :: l, rfl⟩
set_option maxRecDepth 100000 in
theorem ty_api_Kind {xs : List V} (h : Ty Try.prog 24 xs) : ∃ v : Int, xs = cInt v ∧ -9223372036854775808 ≤ v ∧ v ≤ 9223372036854775807 := by
  obtain ⟨n, rfl, hw⟩ := h.asInt Try.underlying24
  refine ⟨n, rfl, ?_⟩
  simp [Lit.wf, IntKind.min, IntKind.max, IntKind.signed, IntKind.bits] at hw
  omega
set_option maxRecDepth 100000 in
theorem ty_string {xs : List V} (h : Ty Try.prog 9 xs) : ∃ v : List UInt8, xs = cStr v ∧ v.length ≤ 9223372036854775807 := by
  obtain ⟨l, rfl, hl⟩ := h.asStr Try.underlying9
  exact ⟨l, rfl, hl⟩
set_option maxRecDepth 100000 in
theorem ty_int {xs : List V} (h : Ty Try.prog 3 xs) : ∃ v : Int, xs = cInt v ∧ -9223372036854775808 ≤ v ∧ v ≤ 9223372036854775807 := by
  obtain ⟨n, rfl, hw⟩ := h.asInt Try.underlying3
  refine ⟨n, rfl, ?_⟩
  simp [Lit.wf, IntKind.min, IntKind.max, IntKind.signed, IntKind.bits] at hw
  omega
set_option maxRecDepth 100000 in
theorem ty_bool {xs : List V} (h : Ty Try.prog 4 xs) : ∃ v : Bool, xs = cBool v ∧ True := by
  obtain ⟨n, rfl⟩ := h.asBool Try.underlying4
  exact ⟨n, rfl, trivial⟩
set_option maxRecDepth 100000 in
theorem tyB_api_Val : ∀ {t : TypeId} {xs : List V}, Ty Try.prog t xs → (t = 27 → ∃ v : api_Val, xs = c_api_Val v) ∧ (t = 25 → ∃ l : List api_Val, xs = cSl c_api_Val l) := by
  have hu0 := Try.underlying27
  have hu1 := Try.underlying25
  intro t xs h
  induction h with
  | int t k n hu => exact ⟨fun e => (by subst e; rw [hu0] at hu; cases hu), fun e => (by subst e; rw [hu1] at hu; cases hu)⟩
  | bool t b hu => exact ⟨fun e => (by subst e; rw [hu0] at hu; cases hu), fun e => (by subst e; rw [hu1] at hu; cases hu)⟩
  | str t s hu => exact ⟨fun e => (by subst e; rw [hu0] at hu; cases hu), fun e => (by subst e; rw [hu1] at hu; cases hu)⟩
  | slice t e es hu _ _ _ ih =>
    refine ⟨fun e => (by subst e; rw [hu0] at hu; cases hu), fun e => ?_⟩
    subst e
    rw [hu1] at hu
    cases hu
    obtain ⟨l, rfl⟩ := listOf c_api_Val es fun x hx => (ih x hx).1 rfl
    exact ⟨l, rfl⟩
  | struct t fs xs hu hl hf ih =>
    refine ⟨fun e => ?_, fun e => (by subst e; rw [hu1] at hu; cases hu)⟩
    subst e
    rw [hu0] at hu
    cases hu
    have hl : xs.length = 5 := hl
    match xs, hl with
    | [a0, a1, a2, a3, a4], _ =>
      have h0 : Ty Try.prog 24 [a0] := hf _ (List.mem_of_getElem? (i := 0) rfl)
      obtain ⟨v0, e0, -⟩ := ty_api_Kind h0
      have h1 : Ty Try.prog 9 [a1] := hf _ (List.mem_of_getElem? (i := 1) rfl)
      obtain ⟨v1, e1, -⟩ := ty_string h1
      have h2 : Ty Try.prog 3 [a2] := hf _ (List.mem_of_getElem? (i := 2) rfl)
      obtain ⟨v2, e2, -⟩ := ty_int h2
      have h3 : Ty Try.prog 4 [a3] := hf _ (List.mem_of_getElem? (i := 3) rfl)
      obtain ⟨v3, e3, -⟩ := ty_bool h3
      have h4 : Ty Try.prog 25 [a4] := hf _ (List.mem_of_getElem? (i := 4) rfl)
      obtain ⟨v4, e4⟩ := (ih _ (List.mem_of_getElem? (i := 4) rfl)).2 rfl
      have e4 : [a4] = cSl c_api_Val v4 := e4
      refine ⟨⟨v0, v1, v2, v3, v4⟩, ?_⟩
      rw [c_api_Val_eq]
      show [a0] ++ [a1] ++ [a2] ++ [a3] ++ [a4] = _
      rw [e0, e1, e2, e3, e4]
      rfl
set_option maxRecDepth 100000 in
theorem ty_api_Val {xs : List V} (h : Ty Try.prog 27 xs) : ∃ v : api_Val, xs = c_api_Val v ∧ True := by
  obtain ⟨v, hv⟩ := (tyB_api_Val h).1 rfl
  exact ⟨v, hv, trivial⟩
theorem ty_sl_api_Val {xs : List V} (h : Ty Try.prog 25 xs) : ∃ v : (List api_Val), xs = (cSl c_api_Val) v ∧ v.length ≤ 9223372036854775807 := by
  obtain ⟨es, rfl, h1, h2⟩ := h.asSlice Try.underlying25
  obtain ⟨l, rfl⟩ := listOf c_api_Val es fun x hx => (tyB_api_Val (h1 x hx)).1 rfl
  exact ⟨l, rfl, by rw [List.length_map] at h2; exact h2⟩
set_option maxRecDepth 100000 in
theorem ty_R30_T {xs : List V} (h : Ty Try.prog 53 xs) : ∃ v : R30_T, xs = c_R30_T v ∧ True := by
  have hu0 := Try.underlying53
  cases h with
  | int _ k n hu => rw [hu0] at hu; cases hu
  | bool _ b hu => rw [hu0] at hu; cases hu
  | str _ s hu => rw [hu0] at hu; cases hu
  | slice _ e es hu => rw [hu0] at hu; cases hu
  | struct _ fs xs hu hl hf =>
    rw [hu0] at hu
    cases hu
    have hl : xs.length = 6 := hl
    match xs, hl with
    | [a0, a1, a2, a3, a4, a5], _ =>
      have h0 : Ty Try.prog 27 [a0, a1, a2, a3, a4] := hf _ (List.mem_of_getElem? (i := 0) rfl)
      obtain ⟨v0, e0, -⟩ := ty_api_Val h0
      have h1 : Ty Try.prog 4 [a5] := hf _ (List.mem_of_getElem? (i := 1) rfl)
      obtain ⟨v1, e1, -⟩ := ty_bool h1
      refine ⟨⟨v0, v1⟩, ?_, trivial⟩
      show [a0, a1, a2, a3, a4] ++ [a5] = _
      rw [e0, e1]
      rw [c_api_Val_eq]
      rfl
set_option maxRecDepth 100000 in
theorem law_taintParts_args (x0 : V) (x1 : V) (y0 : ArgTy Try.prog 53 x0) (y1 : ArgTy Try.prog 9 x1) : PCall Try.prog 8 [x0, x1] (.p (bV true)) := by
  obtain ⟨z0, rfl, hz0⟩ : ∃ v : R30_T, x0 = .agg (c_R30_T v) ∧ True := by
    rcases y0 with ⟨xs, rfl, h, -⟩ | ⟨-, h⟩
    · obtain ⟨v, rfl, -⟩ := ty_R30_T h
      exact ⟨v, rfl, trivial⟩
    · exact absurd Try.underlying53 (h _)
  obtain ⟨z1, ez1, hz1⟩ : ∃ v : (List UInt8), [x1] = cStr v ∧ v.length ≤ 9223372036854775807 := by
    rcases y1 with ⟨xs, _, _, fs, h⟩ | ⟨h, -⟩
    · rw [Try.underlying9] at h; cases h
    · exact ty_string h
  cases ez1
  have hlaw : nunciolaw30_TaintParts z0 z1 = some true := by
    apply lawParts <;> omega
  exact nunciolaw30_TaintParts_ok z0 z1 true hlaw
theorem fragTaintParts : Frag Try.prog [53, 27, 24, 9, 3, 4, 25] = true := by decide +kernel
theorem laidTaintParts : laidOutB Try.prog = true := by kernel_rfl
set_option maxRecDepth 100000 in
theorem taintParts_lifted (os : Os) (started : os.Started) (H : Type) (enc : TypeId × Value → H) :
    ReturnsInHanded {} Try.checked os 8 .any (Rows.taintPartsSpec.pre6 enc Try.prog Try.f8 Rows.taintPartsRow.domain false) (Rows.taintPartsSpec.post enc Try.prog Try.f8 false true false false) := by
  refine returnsInHanded_of_change (C := Try.checked) Try.own started (by kernel_rfl) Try.func8
    (ChangeSpec.witness6 (enc := enc) (C := Try.checked) false ⟨#[], #[.agg #[.int .i64 0, .string ByteArray.empty, .int .i64 0, .bool false, .slice none 0 0, .bool false], .string ByteArray.empty], []⟩ 8 (by kernel_rfl) (by kernel_rfl) (by kernel_rfl) (by kernel_rfl)) ?_
  intro W base args ds gs before hval0 hW hcnd _
  have hval : ∀ (j : Nat) t v, Try.f8.params[j]? = some t → args[j]? = some v → Value.okWide Try.prog W .any base t v := hval0
  have hW' := hW
  obtain ⟨p, q, hA0, hV, rfl, hfz, hnd⟩ := hW
  have hA : DataW.TrodAll enc Try.prog W 0 (fun _ => true) true Try.f8.params.toList args.toList ds p := hA0
  rw [Try.params8] at hA hval
  have hA2 := hA
  obtain ⟨v0, v1, d0, d1, p0, p1, rfl, rfl, rfl, h0, h1⟩ := trodAll_two hA
  obtain ⟨rfl, rfl⟩ := trodVars_none hV
  obtain ⟨x0, r0, y0⟩ := arg_open fragTaintParts (by decide) (hval 0 53 v0 rfl rfl) h0
  obtain ⟨x1, r1, y1⟩ := arg_open fragTaintParts (by decide) (hval 1 9 v1 rfl rfl) h1
  clear hA0 hval0
  simp only [List.append_nil] at hW'
  refine ((law_taintParts_args x0 x1 y0 y1).out (fun _ _ => True) W #[v0, v1] rfl (rels2 r0 r1)).mono fun e W' ⟨u, he, hd, hg⟩ => ?_
  have hu : u = .bool true := by cases hd with | p _ _ hd => cases hd; rfl
  subst hu; subst he
  exact ⟨_, rfl, post_law2 (pv := []) hW' (fun _ _ _ => trodAll_mk1 (shut_bool Try.underlying4 _)) (trodAll_below laidTaintParts hg (of_decide_eq_true (by kernel_rfl)) hA2 (fun x hx => by simpa using hW'.lt x hx)) rfl hg⟩

theorem taintParts_holds : Rows.TaintPartsSaid :=
  OpenClaim.holds_of_wide 8 Try.f8 rfl rfl rfl rfl rfl rfl rfl ⟨rfl, rfl, rfl, rfl, rfl⟩ rfl rfl rfl rfl rfl (by kernel_rfl) Try.func8 (by kernel_rfl)
    (of_decide_eq_true (by kernel_rfl)) (by unfold Func.isWrapper; first | (rw [if_pos (by decide +kernel)]; kernel_rfl) | (rw [if_neg (by decide +kernel)]; exact ⟨rfl, rfl⟩))
    (fun os started H enc _ => taintParts_lifted os started H enc)
#print axioms taintParts_holds
end Go.Proofs.Ytcegigccehapdaa
