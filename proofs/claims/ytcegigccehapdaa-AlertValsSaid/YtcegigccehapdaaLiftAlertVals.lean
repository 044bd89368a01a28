/- The statement AlertValsSaid: the law's function, decompiled, hands back true for every input; lifted out of its walk. -/
import Derived.Test.YtcegigccehapdaaP17c
import Derived.Test.YtcegigccehapdaaAbL
namespace Go.Proofs.Ytcegigccehapdaa
open Go.ChangeShapes Go.WideShapes Go.ChangeAt Go.RowKit
open Go.ChangeMaps (setBlock shut_map_nil open_string shut_string keptBut_setBlock frozen?_setBlock heap_setBlock_same)

theorem listOf {α : Type} (c : α → List V) : ∀ es : List (List V), (∀ x ∈ es, ∃ v, x = c v) → ∃ l : List α, es = l.map c
  | [], _ => ⟨[], rfl⟩
  | x :: r, h => by
    obtain ⟨v, rfl⟩ := h x (by simp)
    obtain ⟨l, rfl⟩ := listOf c r fun y hy => h y (by simp [hy])
    exact ⟨v :: l, rfl⟩
set_option maxRecDepth 100000 in
theorem ty_string {xs : List V} (h : Ty Try.prog 9 xs) : ∃ v : List UInt8, xs = cStr v ∧ v.length ≤ 9223372036854775807 := by
  obtain ⟨l, rfl, hl⟩ := h.asStr Try.underlying9
  exact ⟨l, rfl, hl⟩
set_option maxRecDepth 100000 in
theorem ty_bool {xs : List V} (h : Ty Try.prog 4 xs) : ∃ v : Bool, xs = cBool v ∧ True := by
  obtain ⟨n, rfl⟩ := h.asBool Try.underlying4
  exact ⟨n, rfl, trivial⟩
set_option maxRecDepth 100000 in
theorem ty_api_Pair {xs : List V} (h : Ty Try.prog 73 xs) : ∃ v : api_Pair, xs = c_api_Pair v ∧ True := by
  have hu0 := Try.underlying73
  cases h with
  | int _ k n hu => rw [hu0] at hu; cases hu
  | bool _ b hu => rw [hu0] at hu; cases hu
  | str _ s hu => rw [hu0] at hu; cases hu
  | slice _ e es hu => rw [hu0] at hu; cases hu
  | struct _ fs xs hu hl hf =>
    rw [hu0] at hu
    cases hu
    have hl : xs.length = 2 := hl
    match xs, hl with
    | [a0, a1], _ =>
      have h0 : Ty Try.prog 9 [a0] := hf _ (List.mem_of_getElem? (i := 0) rfl)
      obtain ⟨v0, e0, -⟩ := ty_string h0
      have h1 : Ty Try.prog 9 [a1] := hf _ (List.mem_of_getElem? (i := 1) rfl)
      obtain ⟨v1, e1, -⟩ := ty_string h1
      refine ⟨⟨v0, v1⟩, ?_, trivial⟩
      show [a0] ++ [a1] = _
      rw [e0, e1]
      rfl
set_option maxRecDepth 100000 in
theorem ty_sl_api_Pair {xs : List V} (h : Ty Try.prog 66 xs) : ∃ v : (List api_Pair), xs = (cSl c_api_Pair) v ∧ v.length ≤ 9223372036854775807 := by
  obtain ⟨es, rfl, h1, h2⟩ := h.asSlice Try.underlying66
  obtain ⟨l, rfl⟩ := listOf c_api_Pair es fun x hx => by
    obtain ⟨v, hv, -⟩ := ty_api_Pair (h1 x hx)
    exact ⟨v, hv⟩
  exact ⟨l, rfl, by rw [List.length_map] at h2; exact h2⟩
set_option maxRecDepth 100000 in
theorem ty_int {xs : List V} (h : Ty Try.prog 3 xs) : ∃ v : Int, xs = cInt v ∧ -9223372036854775808 ≤ v ∧ v ≤ 9223372036854775807 := by
  obtain ⟨n, rfl, hw⟩ := h.asInt Try.underlying3
  refine ⟨n, rfl, ?_⟩
  simp [Lit.wf, IntKind.min, IntKind.max, IntKind.signed, IntKind.bits] at hw
  omega
set_option maxRecDepth 100000 in
theorem ty_api_Alert {xs : List V} (h : Ty Try.prog 71 xs) : ∃ v : api_Alert, xs = c_api_Alert v ∧ True := by
  have hu0 := Try.underlying71
  cases h with
  | int _ k n hu => rw [hu0] at hu; cases hu
  | bool _ b hu => rw [hu0] at hu; cases hu
  | str _ s hu => rw [hu0] at hu; cases hu
  | slice _ e es hu => rw [hu0] at hu; cases hu
  | struct _ fs xs hu hl hf =>
    rw [hu0] at hu
    cases hu
    have hl : xs.length = 6 := hl
    match xs, hl with
    | [a0, a1, a2, a3, a4, a5], _ =>
      have h0 : Ty Try.prog 4 [a0] := hf _ (List.mem_of_getElem? (i := 0) rfl)
      obtain ⟨v0, e0, -⟩ := ty_bool h0
      have h1 : Ty Try.prog 3 [a1] := hf _ (List.mem_of_getElem? (i := 1) rfl)
      obtain ⟨v1, e1, -⟩ := ty_int h1
      have h2 : Ty Try.prog 3 [a2] := hf _ (List.mem_of_getElem? (i := 2) rfl)
      obtain ⟨v2, e2, -⟩ := ty_int h2
      have h3 : Ty Try.prog 66 [a3] := hf _ (List.mem_of_getElem? (i := 3) rfl)
      obtain ⟨v3, e3, -⟩ := ty_sl_api_Pair h3
      have h4 : Ty Try.prog 66 [a4] := hf _ (List.mem_of_getElem? (i := 4) rfl)
      obtain ⟨v4, e4, -⟩ := ty_sl_api_Pair h4
      have h5 : Ty Try.prog 9 [a5] := hf _ (List.mem_of_getElem? (i := 5) rfl)
      obtain ⟨v5, e5, -⟩ := ty_string h5
      refine ⟨⟨v0, v1, v2, v3, v4, v5⟩, ?_, trivial⟩
      show [a0] ++ [a1] ++ [a2] ++ [a3] ++ [a4] ++ [a5] = _
      rw [e0, e1, e2, e3, e4, e5]
      rfl
set_option maxRecDepth 100000 in
theorem ty_sl_api_Alert {xs : List V} (h : Ty Try.prog 67 xs) : ∃ v : (List api_Alert), xs = (cSl c_api_Alert) v ∧ v.length ≤ 9223372036854775807 := by
  obtain ⟨es, rfl, h1, h2⟩ := h.asSlice Try.underlying67
  obtain ⟨l, rfl⟩ := listOf c_api_Alert es fun x hx => by
    obtain ⟨v, hv, -⟩ := ty_api_Alert (h1 x hx)
    exact ⟨v, hv⟩
  exact ⟨l, rfl, by rw [List.length_map] at h2; exact h2⟩
set_option maxRecDepth 100000 in
theorem ty_api_Group {xs : List V} (h : Ty Try.prog 69 xs) : ∃ v : api_Group, xs = c_api_Group v ∧ True := by
  have hu0 := Try.underlying69
  cases h with
  | int _ k n hu => rw [hu0] at hu; cases hu
  | bool _ b hu => rw [hu0] at hu; cases hu
  | str _ s hu => rw [hu0] at hu; cases hu
  | slice _ e es hu => rw [hu0] at hu; cases hu
  | struct _ fs xs hu hl hf =>
    rw [hu0] at hu
    cases hu
    have hl : xs.length = 5 := hl
    match xs, hl with
    | [a0, a1, a2, a3, a4], _ =>
      have h0 : Ty Try.prog 9 [a0] := hf _ (List.mem_of_getElem? (i := 0) rfl)
      obtain ⟨v0, e0, -⟩ := ty_string h0
      have h1 : Ty Try.prog 4 [a1] := hf _ (List.mem_of_getElem? (i := 1) rfl)
      obtain ⟨v1, e1, -⟩ := ty_bool h1
      have h2 : Ty Try.prog 66 [a2] := hf _ (List.mem_of_getElem? (i := 2) rfl)
      obtain ⟨v2, e2, -⟩ := ty_sl_api_Pair h2
      have h3 : Ty Try.prog 9 [a3] := hf _ (List.mem_of_getElem? (i := 3) rfl)
      obtain ⟨v3, e3, -⟩ := ty_string h3
      have h4 : Ty Try.prog 67 [a4] := hf _ (List.mem_of_getElem? (i := 4) rfl)
      obtain ⟨v4, e4, -⟩ := ty_sl_api_Alert h4
      refine ⟨⟨v0, v1, v2, v3, v4⟩, ?_, trivial⟩
      show [a0] ++ [a1] ++ [a2] ++ [a3] ++ [a4] = _
      rw [e0, e1, e2, e3, e4]
      rfl
set_option maxRecDepth 100000 in
theorem law_alertVals_args (x0 : V) (y0 : ArgTy Try.prog 69 x0) : PCall Try.prog 11 [x0] (.p (bV true)) := by
  obtain ⟨z0, rfl, hz0⟩ : ∃ v : api_Group, x0 = .agg (c_api_Group v) ∧ True := by
    rcases y0 with ⟨xs, rfl, h, -⟩ | ⟨-, h⟩
    · obtain ⟨v, rfl, -⟩ := ty_api_Group h
      exact ⟨v, rfl, trivial⟩
    · exact absurd Try.underlying69 (h _)
  have hlaw : nunciolaw17_AlertVals z0 = some true := by
    apply lawVals <;> omega
  exact nunciolaw17_AlertVals_ok z0 true hlaw
theorem fragAlertVals : Frag Try.prog [69, 9, 4, 66, 73, 67, 71, 3] = true := by decide +kernel
theorem laidAlertVals : laidOutB Try.prog = true := by kernel_rfl
set_option maxRecDepth 100000 in
theorem alertVals_lifted (os : Os) (started : os.Started) (H : Type) (enc : TypeId × Value → H) :
    ReturnsInHanded {} Try.checked os 11 .any (Rows.alertValsSpec.pre6 enc Try.prog Try.f11 Rows.alertValsRow.domain false) (Rows.alertValsSpec.post enc Try.prog Try.f11 false true false false) := by
  refine returnsInHanded_of_change (C := Try.checked) Try.own started (by kernel_rfl) Try.func11
    (ChangeSpec.witness6 (enc := enc) (C := Try.checked) false ⟨#[], #[.agg #[.string ByteArray.empty, .bool false, .slice none 0 0, .string ByteArray.empty, .slice none 0 0]], []⟩ 8 (by kernel_rfl) (by kernel_rfl) (by kernel_rfl) (by kernel_rfl)) ?_
  intro W base args ds gs before hval0 hW hcnd _
  have hval : ∀ (j : Nat) t v, Try.f11.params[j]? = some t → args[j]? = some v → Value.okWide Try.prog W .any base t v := hval0
  have hW' := hW
  obtain ⟨p, q, hA0, hV, rfl, hfz, hnd⟩ := hW
  have hA : DataW.TrodAll enc Try.prog W 0 (fun _ => true) true Try.f11.params.toList args.toList ds p := hA0
  rw [Try.params11] at hA hval
  have hA2 := hA
  obtain ⟨v0, d0, rfl, rfl, h0⟩ := trodAll_one hA
  obtain ⟨rfl, rfl⟩ := trodVars_none hV
  obtain ⟨x0, r0, y0⟩ := arg_open fragAlertVals (by decide) (hval 0 69 v0 rfl rfl) h0
  clear hA0 hval0
  simp only [List.append_nil] at hW'
  refine ((law_alertVals_args x0 y0).out (fun _ _ => True) W #[v0] rfl (rels1 r0)).mono fun e W' ⟨u, he, hd, hg⟩ => ?_
  have hu : u = .bool true := by cases hd with | p _ _ hd => cases hd; rfl
  subst hu; subst he
  exact ⟨_, rfl, post_law2 (pv := []) hW' (fun _ _ _ => trodAll_mk1 (shut_bool Try.underlying4 _)) (trodAll_below laidAlertVals hg (of_decide_eq_true (by kernel_rfl)) hA2 (fun x hx => by simpa using hW'.lt x hx)) rfl hg⟩

theorem alertVals_holds : Rows.AlertValsSaid :=
  OpenClaim.holds_of_wide 11 Try.f11 rfl rfl rfl rfl rfl rfl rfl ⟨rfl, rfl, rfl, rfl, rfl⟩ rfl rfl rfl rfl rfl (by kernel_rfl) Try.func11 (by kernel_rfl)
    (of_decide_eq_true (by kernel_rfl)) (by unfold Func.isWrapper; first | (rw [if_pos (by decide +kernel)]; kernel_rfl) | (rw [if_neg (by decide +kernel)]; exact ⟨rfl, rfl⟩))
    (fun os started H enc _ => alertVals_lifted os started H enc)
#print axioms alertVals_holds
end Go.Proofs.Ytcegigccehapdaa
