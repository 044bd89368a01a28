/- The statement AlertBacksSaid: the law's function, decompiled, hands back true for every input; lifted out of its walk. -/
import Derived.Test.YtcegigccehapdaaP17d
import Derived.Test.YtcegigccehapdaaAbL
namespace Go.Proofs.Ytcegigccehapdaa
open Go.ChangeShapes Go.WideShapes Go.ChangeAt Go.RowKit
open Go.ChangeMaps (setBlock shut_map_nil open_string shut_string keptBut_setBlock frozen?_setBlock heap_setBlock_same)

theorem listOf {α : Type} (c : α → List V) : ∀ es : List (List V), (∀ x ∈ es, ∃ v, x = c v) → ∃ l : List α, es = l.map c
  | [], _ => ⟨[], rfl⟩
  | x :: r, h => by
    obtain ⟨v, rfl⟩ := h x (by simp)
    obtain ⟨l, rfl⟩ := listOf c r fun y hy => h y (by simp [hy])
    exact ⟨v :: l, rfl⟩
set_option maxRecDepth 100000 in
theorem ty_api_Kind {xs : List V} (h : Ty Try.prog 24 xs) : ∃ v : Int, xs = cInt v ∧ -9223372036854775808 ≤ v ∧ v ≤ 9223372036854775807 := by
  obtain ⟨n, rfl, hw⟩ := h.asInt Try.underlying24
  refine ⟨n, rfl, ?_⟩
  simp [Lit.wf, IntKind.min, IntKind.max, IntKind.signed, IntKind.bits] at hw
  omega
set_option maxRecDepth 100000 in
theorem ty_string {xs : List V} (h : Ty Try.prog 9 xs) : ∃ v : List UInt8, xs = cStr v ∧ v.length ≤ 9223372036854775807 := by
  obtain ⟨l, rfl, hl⟩ := h.asStr Try.underlying9
  exact ⟨l, rfl, hl⟩
set_option maxRecDepth 100000 in
theorem ty_int {xs : List V} (h : Ty Try.prog 3 xs) : ∃ v : Int, xs = cInt v ∧ -9223372036854775808 ≤ v ∧ v ≤ 9223372036854775807 := by
  obtain ⟨n, rfl, hw⟩ := h.asInt Try.underlying3
  refine ⟨n, rfl, ?_⟩
  simp [Lit.wf, IntKind.min, IntKind.max, IntKind.signed, IntKind.bits] at hw
  omega
set_option maxRecDepth 100000 in
theorem ty_bool {xs : List V} (h : Ty Try.prog 4 xs) : ∃ v : Bool, xs = cBool v ∧ True := by
  obtain ⟨n, rfl⟩ := h.asBool Try.underlying4
  exact ⟨n, rfl, trivial⟩
set_option maxRecDepth 100000 in
theorem tyB_api_Val : ∀ {t : TypeId} {xs : List V}, Ty Try.prog t xs → (t = 27 → ∃ v : api_Val, xs = c_api_Val v) ∧ (t = 25 → ∃ l : List api_Val, xs = cSl c_api_Val l) := by
  have hu0 := Try.underlying27
  have hu1 := Try.underlying25
  intro t xs h
  induction h with
  | int t k n hu => exact ⟨fun e => (by subst e; rw [hu0] at hu; cases hu), fun e => (by subst e; rw [hu1] at hu; cases hu)⟩
  | bool t b hu => exact ⟨fun e => (by subst e; rw [hu0] at hu; cases hu), fun e => (by subst e; rw [hu1] at hu; cases hu)⟩
  | str t s hu => exact ⟨fun e => (by subst e; rw [hu0] at hu; cases hu), fun e => (by subst e; rw [hu1] at hu; cases hu)⟩
  | slice t e es hu _ _ _ ih =>
    refine ⟨fun e => (by subst e; rw [hu0] at hu; cases hu), fun e => ?_⟩
    subst e
    rw [hu1] at hu
    cases hu
    obtain ⟨l, rfl⟩ := listOf c_api_Val es fun x hx => (ih x hx).1 rfl
    exact ⟨l, rfl⟩
  | struct t fs xs hu hl hf ih =>
    refine ⟨fun e => ?_, fun e => (by subst e; rw [hu1] at hu; cases hu)⟩
    subst e
    rw [hu0] at hu
    cases hu
    have hl : xs.length = 5 := hl
    match xs, hl with
    | [a0, a1, a2, a3, a4], _ =>
      have h0 : Ty Try.prog 24 [a0] := hf _ (List.mem_of_getElem? (i := 0) rfl)
      obtain ⟨v0, e0, -⟩ := ty_api_Kind h0
      have h1 : Ty Try.prog 9 [a1] := hf _ (List.mem_of_getElem? (i := 1) rfl)
      obtain ⟨v1, e1, -⟩ := ty_string h1
      have h2 : Ty Try.prog 3 [a2] := hf _ (List.mem_of_getElem? (i := 2) rfl)
      obtain ⟨v2, e2, -⟩ := ty_int h2
      have h3 : Ty Try.prog 4 [a3] := hf _ (List.mem_of_getElem? (i := 3) rfl)
      obtain ⟨v3, e3, -⟩ := ty_bool h3
      have h4 : Ty Try.prog 25 [a4] := hf _ (List.mem_of_getElem? (i := 4) rfl)
      obtain ⟨v4, e4⟩ := (ih _ (List.mem_of_getElem? (i := 4) rfl)).2 rfl
      have e4 : [a4] = cSl c_api_Val v4 := e4
      refine ⟨⟨v0, v1, v2, v3, v4⟩, ?_⟩
      rw [c_api_Val_eq]
      show [a0] ++ [a1] ++ [a2] ++ [a3] ++ [a4] = _
      rw [e0, e1, e2, e3, e4]
      rfl
set_option maxRecDepth 100000 in
theorem ty_api_Val {xs : List V} (h : Ty Try.prog 27 xs) : ∃ v : api_Val, xs = c_api_Val v ∧ True := by
  obtain ⟨v, hv⟩ := (tyB_api_Val h).1 rfl
  exact ⟨v, hv, trivial⟩
theorem ty_sl_api_Val {xs : List V} (h : Ty Try.prog 25 xs) : ∃ v : (List api_Val), xs = (cSl c_api_Val) v ∧ v.length ≤ 9223372036854775807 := by
  obtain ⟨es, rfl, h1, h2⟩ := h.asSlice Try.underlying25
  obtain ⟨l, rfl⟩ := listOf c_api_Val es fun x hx => (tyB_api_Val (h1 x hx)).1 rfl
  exact ⟨l, rfl, by rw [List.length_map] at h2; exact h2⟩
set_option maxRecDepth 100000 in
theorem law_alertBacks_args (x0 : V) (y0 : ArgTy Try.prog 27 x0) : PCall Try.prog 12 [x0] (.p (bV true)) := by
  obtain ⟨z0, rfl, hz0⟩ : ∃ v : api_Val, x0 = .agg (l_api_Val v) ∧ True := by
    rcases y0 with ⟨xs, rfl, h, -⟩ | ⟨-, h⟩
    · obtain ⟨v, rfl, -⟩ := ty_api_Val h
      exact ⟨v, by rw [c_api_Val_eq], trivial⟩
    · exact absurd Try.underlying27 (h _)
  have hlaw : nunciolaw17_AlertBacks z0 = some true := by
    apply lawBacks <;> omega
  exact nunciolaw17_AlertBacks_ok z0 true hlaw
theorem fragAlertBacks : Frag Try.prog [27, 24, 9, 3, 4, 25] = true := by decide +kernel
theorem laidAlertBacks : laidOutB Try.prog = true := by kernel_rfl
set_option maxRecDepth 100000 in
theorem alertBacks_lifted (os : Os) (started : os.Started) (H : Type) (enc : TypeId × Value → H) :
    ReturnsInHanded {} Try.checked os 12 .any (Rows.alertBacksSpec.pre6 enc Try.prog Try.f12 Rows.alertBacksRow.domain false) (Rows.alertBacksSpec.post enc Try.prog Try.f12 false true false false) := by
  refine returnsInHanded_of_change (C := Try.checked) Try.own started (by kernel_rfl) Try.func12
    (ChangeSpec.witness6 (enc := enc) (C := Try.checked) false ⟨#[], #[.agg #[.int .i64 0, .string ByteArray.empty, .int .i64 0, .bool false, .slice none 0 0]], []⟩ 8 (by kernel_rfl) (by kernel_rfl) (by kernel_rfl) (by kernel_rfl)) ?_
  intro W base args ds gs before hval0 hW hcnd _
  have hval : ∀ (j : Nat) t v, Try.f12.params[j]? = some t → args[j]? = some v → Value.okWide Try.prog W .any base t v := hval0
  have hW' := hW
  obtain ⟨p, q, hA0, hV, rfl, hfz, hnd⟩ := hW
  have hA : DataW.TrodAll enc Try.prog W 0 (fun _ => true) true Try.f12.params.toList args.toList ds p := hA0
  rw [Try.params12] at hA hval
  have hA2 := hA
  obtain ⟨v0, d0, rfl, rfl, h0⟩ := trodAll_one hA
  obtain ⟨rfl, rfl⟩ := trodVars_none hV
  obtain ⟨x0, r0, y0⟩ := arg_open fragAlertBacks (by decide) (hval 0 27 v0 rfl rfl) h0
  clear hA0 hval0
  simp only [List.append_nil] at hW'
  refine ((law_alertBacks_args x0 y0).out (fun _ _ => True) W #[v0] rfl (rels1 r0)).mono fun e W' ⟨u, he, hd, hg⟩ => ?_
  have hu : u = .bool true := by cases hd with | p _ _ hd => cases hd; rfl
  subst hu; subst he
  exact ⟨_, rfl, post_law2 (pv := []) hW' (fun _ _ _ => trodAll_mk1 (shut_bool Try.underlying4 _)) (trodAll_below laidAlertBacks hg (of_decide_eq_true (by kernel_rfl)) hA2 (fun x hx => by simpa using hW'.lt x hx)) rfl hg⟩

theorem alertBacks_holds : Rows.AlertBacksSaid :=
  OpenClaim.holds_of_wide 12 Try.f12 rfl rfl rfl rfl rfl rfl rfl ⟨rfl, rfl, rfl, rfl, rfl⟩ rfl rfl rfl rfl rfl (by kernel_rfl) Try.func12 (by kernel_rfl)
    (of_decide_eq_true (by kernel_rfl)) (by unfold Func.isWrapper; first | (rw [if_pos (by decide +kernel)]; kernel_rfl) | (rw [if_neg (by decide +kernel)]; exact ⟨rfl, rfl⟩))
    (fun os started H enc _ => alertBacks_lifted os started H enc)
#print axioms alertBacks_holds
end Go.Proofs.Ytcegigccehapdaa
