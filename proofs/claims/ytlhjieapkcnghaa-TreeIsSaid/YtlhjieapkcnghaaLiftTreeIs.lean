/- The statement TreeIsSaid: the law's function, decompiled, hands back true for every input; lifted out of its walk. -/
import Derived.Test.YtlhjieapkcnghaaP19i
import Derived.Test.YtlhjieapkcnghaaAbL
import Derived.HandedShaped
namespace Go.Proofs.Ytlhjieapkcnghaa
open Go.ChangeShapes Go.WideShapes Go.ChangeAt Go.RowKit
open Go.ChangeMaps (setBlock shut_map_nil open_string shut_string keptBut_setBlock frozen?_setBlock heap_setBlock_same)

theorem listOf {α : Type} (c : α → List V) : ∀ es : List (List V), (∀ x ∈ es, ∃ v, x = c v) → ∃ l : List α, es = l.map c
  | [], _ => ⟨[], rfl⟩
  | x :: r, h => by
    obtain ⟨v, rfl⟩ := h x (by simp)
    obtain ⟨l, rfl⟩ := listOf c r fun y hy => h y (by simp [hy])
    exact ⟨v :: l, rfl⟩
theorem listOfP {α : Type} (c : α → List V) (P : α → Prop) : ∀ es : List (List V), (∀ x ∈ es, ∃ v, x = c v ∧ P v) → ∃ l : List α, es = l.map c ∧ ∀ x ∈ l, P x
  | [], _ => ⟨[], rfl, by simp⟩
  | x :: r, h => by
    obtain ⟨v, rfl, hv⟩ := h x (by simp)
    obtain ⟨l, rfl, hl⟩ := listOfP c P r fun y hy => h y (by simp [hy])
    exact ⟨v :: l, rfl, fun y hy => by rcases List.mem_cons.1 hy with rfl | hy; exact hv; exact hl y hy⟩
theorem allL_of {Q : api_Node → Prop} : ∀ {l : List api_Node}, (∀ x ∈ l, allN Q x) → allL Q l
  | [], _ => by rw [allL]; trivial
  | x :: r, h => by rw [allL]; exact ⟨h x (by simp), allL_of fun y hy => h y (by simp [hy])⟩
set_option maxRecDepth 100000 in
theorem ty_api_NodeKind {xs : List V} (h : Ty Try.prog 50 xs) : ∃ v : Int, xs = cInt v ∧ -9223372036854775808 ≤ v ∧ v ≤ 9223372036854775807 := by
  obtain ⟨n, rfl, hw⟩ := h.asInt Try.underlying50
  refine ⟨n, rfl, ?_⟩
  simp [Lit.wf, IntKind.min, IntKind.max, IntKind.signed, IntKind.bits] at hw
  omega
set_option maxRecDepth 100000 in
theorem ty_string {xs : List V} (h : Ty Try.prog 9 xs) : ∃ v : List UInt8, xs = cStr v ∧ v.length ≤ 9223372036854775807 := by
  obtain ⟨l, rfl, hl⟩ := h.asStr Try.underlying9
  exact ⟨l, rfl, hl⟩
set_option maxRecDepth 100000 in
theorem ty_int {xs : List V} (h : Ty Try.prog 3 xs) : ∃ v : Int, xs = cInt v ∧ -9223372036854775808 ≤ v ∧ v ≤ 9223372036854775807 := by
  obtain ⟨n, rfl, hw⟩ := h.asInt Try.underlying3
  refine ⟨n, rfl, ?_⟩
  simp [Lit.wf, IntKind.min, IntKind.max, IntKind.signed, IntKind.bits] at hw
  omega
set_option maxRecDepth 100000 in
theorem tyB_api_Node : ∀ {t : TypeId} {xs : List V}, Ty Try.prog t xs → (t = 52 → ∃ v : api_Node, xs = c_api_Node v ∧ allN rngN v) ∧ (t = 38 → ∃ l : List api_Node, xs = cSl c_api_Node l ∧ allL rngN l) := by
  have hu0 := Try.underlying52
  have hu1 := Try.underlying38
  intro t xs h
  induction h with
  | int t k n hu => exact ⟨fun e => (by subst e; rw [hu0] at hu; cases hu), fun e => (by subst e; rw [hu1] at hu; cases hu)⟩
  | bool t b hu => exact ⟨fun e => (by subst e; rw [hu0] at hu; cases hu), fun e => (by subst e; rw [hu1] at hu; cases hu)⟩
  | str t s hu => exact ⟨fun e => (by subst e; rw [hu0] at hu; cases hu), fun e => (by subst e; rw [hu1] at hu; cases hu)⟩
  | slice t e es hu _ _ _ ih =>
    refine ⟨fun e => (by subst e; rw [hu0] at hu; cases hu), fun e => ?_⟩
    subst e
    rw [hu1] at hu
    cases hu
    obtain ⟨l, rfl, hl⟩ := listOfP c_api_Node (allN rngN) es fun x hx => (ih x hx).1 rfl
    exact ⟨l, rfl, allL_of hl⟩
  | struct t fs xs hu hl hf ih =>
    refine ⟨fun e => ?_, fun e => (by subst e; rw [hu1] at hu; cases hu)⟩
    subst e
    rw [hu0] at hu
    cases hu
    have hl : xs.length = 7 := hl
    match xs, hl with
    | [a0, a1, a2, a3, a4, a5, a6], _ =>
      have h0 : Ty Try.prog 50 [a0] := hf _ (List.mem_of_getElem? (i := 0) rfl)
      obtain ⟨v0, e0, g0⟩ := ty_api_NodeKind h0
      have h1 : Ty Try.prog 9 [a1] := hf _ (List.mem_of_getElem? (i := 1) rfl)
      obtain ⟨v1, e1, g1⟩ := ty_string h1
      have h2 : Ty Try.prog 9 [a2] := hf _ (List.mem_of_getElem? (i := 2) rfl)
      obtain ⟨v2, e2, g2⟩ := ty_string h2
      have h3 : Ty Try.prog 3 [a3] := hf _ (List.mem_of_getElem? (i := 3) rfl)
      obtain ⟨v3, e3, g3⟩ := ty_int h3
      have h4 : Ty Try.prog 38 [a4] := hf _ (List.mem_of_getElem? (i := 4) rfl)
      obtain ⟨v4, e4, g4⟩ := (ih _ (List.mem_of_getElem? (i := 4) rfl)).2 rfl
      have e4 : [a4] = cSl c_api_Node v4 := e4
      have h5 : Ty Try.prog 38 [a5] := hf _ (List.mem_of_getElem? (i := 5) rfl)
      obtain ⟨v5, e5, g5⟩ := (ih _ (List.mem_of_getElem? (i := 5) rfl)).2 rfl
      have e5 : [a5] = cSl c_api_Node v5 := e5
      have h6 : Ty Try.prog 38 [a6] := hf _ (List.mem_of_getElem? (i := 6) rfl)
      obtain ⟨v6, e6, g6⟩ := (ih _ (List.mem_of_getElem? (i := 6) rfl)).2 rfl
      have e6 : [a6] = cSl c_api_Node v6 := e6
      refine ⟨⟨v0, v1, v2, v3, v4, v5, v6⟩, ?_, (allN_eq _ _).2 ⟨g3, g4, g5, g6⟩⟩
      rw [c_api_Node_eq]
      show [a0] ++ [a1] ++ [a2] ++ [a3] ++ [a4] ++ [a5] ++ [a6] = _
      rw [e0, e1, e2, e3, e4, e5, e6]
      rfl
set_option maxRecDepth 100000 in
theorem ty_api_Node {xs : List V} (h : Ty Try.prog 52 xs) : ∃ v : api_Node, xs = c_api_Node v ∧ allN rngN v := by
  exact (tyB_api_Node h).1 rfl
theorem ty_sl_api_Node {xs : List V} (h : Ty Try.prog 38 xs) : ∃ v : (List api_Node), xs = (cSl c_api_Node) v ∧ v.length ≤ 9223372036854775807 ∧ allL rngN v := by
  obtain ⟨es, rfl, h1, h2⟩ := h.asSlice Try.underlying38
  obtain ⟨l, rfl, hl⟩ := listOfP c_api_Node (allN rngN) es fun x hx => (tyB_api_Node (h1 x hx)).1 rfl
  exact ⟨l, rfl, by rw [List.length_map] at h2; exact h2, allL_of hl⟩
set_option maxRecDepth 100000 in
theorem law_treeIs_args (x0 : V) (x1 : V) (y0 : ArgTy Try.prog 38 x0) (y1 : ArgTy Try.prog 9 x1) : PCall Try.prog 5 [x0, x1] (.p (bV true)) := by
  obtain ⟨z0, ez0, hz0⟩ : ∃ v : (List api_Node), [x0] = (cSl c_api_Node) v ∧ v.length ≤ 9223372036854775807 ∧ allL rngN v := by
    rcases y0 with ⟨xs, _, _, fs, h⟩ | ⟨h, -⟩
    · rw [Try.underlying38] at h; cases h
    · exact ty_sl_api_Node h
  cases ez0
  obtain ⟨z1, ez1, hz1⟩ : ∃ v : (List UInt8), [x1] = cStr v ∧ v.length ≤ 9223372036854775807 := by
    rcases y1 with ⟨xs, _, _, fs, h⟩ | ⟨h, -⟩
    · rw [Try.underlying9] at h; cases h
    · exact ty_string h
  cases ez1
  have hlaw : nunciolaw19_TreeIs z0 z1 = some true := by
    apply lawTreeIs <;> first | omega | exact hz0.2 | exact hz1.2
  exact nunciolaw19_TreeIs_ok z0 z1 true hlaw
theorem fragTreeIs : Frag Try.prog [38, 52, 50, 9, 3] = true := by decide +kernel
theorem laidTreeIs : laidOutB Try.prog = true := by kernel_rfl
set_option maxRecDepth 100000 in
theorem treeIs_lifted (os : Os) (started : os.Started) (H : Type) (enc : TypeId × Value → H) :
    ReturnsInHanded {} Try.checked os 5 .any (Rows.treeIsSpec.pre6 enc Try.prog Try.f5 Rows.treeIsRow.domain false) (Rows.treeIsSpec.post enc Try.prog Try.f5 false true false false) := by
  refine returnsInHanded_of_change_shaped (C := Try.checked) Try.own started (by kernel_rfl) Try.func5
    (ChangeSpec.witness6 (enc := enc) (C := Try.checked) false ⟨#[], #[.slice none 0 0, .string ByteArray.empty], []⟩ 8 (by kernel_rfl) (by kernel_rfl) (by kernel_rfl) (by kernel_rfl)) ?_
  intro W base args ds gs before hval0 hW hcnd _ hsh _
  have hval : ∀ (j : Nat) t v, Try.f5.params[j]? = some t → args[j]? = some v → Value.okWide Try.prog W .any base t v := hval0
  have hW' := hW
  obtain ⟨p, q, hA0, hV, rfl, hfz, hnd⟩ := hW
  have hA : DataW.TrodAll enc Try.prog W 0 (fun _ => true) true Try.f5.params.toList args.toList ds p := hA0
  rw [Try.params5] at hA hval
  have hA2 := hA
  obtain ⟨v0, v1, d0, d1, p0, p1, rfl, rfl, rfl, h0, h1⟩ := trodAll_two hA
  obtain ⟨rfl, rfl⟩ := trodVars_none hV
  obtain ⟨x0, r0, y0⟩ := arg_open fragTreeIs (by decide) (hval 0 38 v0 rfl rfl) h0
  obtain ⟨x1, r1, y1⟩ := arg_open fragTreeIs (by decide) (hval 1 9 v1 rfl rfl) h1
  clear hA0 hval0
  simp only [List.append_nil] at hW'
  have hgl : GlobOk (fun _ _ => True) W := fun b hb => by
    obtain ⟨m, hm⟩ : ∃ m, W.cell? ⟨0, 0, none⟩ = some (.int .i64 m) := Try.laysM219.s1_3 W hsh
    simp only [globsL, List.mem_singleton] at hb
    subst hb
    exact ⟨m, trivial, hm⟩
  refine ((law_treeIs_args x0 x1 y0 y1).out (fun _ _ => True) W #[v0, v1] hgl rfl (rels2 r0 r1)).mono fun e W' ⟨u, he, hd, hg⟩ => ?_
  have hu : u = .bool true := by cases hd with | p _ _ hd => cases hd; rfl
  subst hu; subst he
  exact ⟨_, rfl, post_law2 (pv := []) hW' (fun _ _ _ => trodAll_mk1 (shut_bool Try.underlying4 _)) (trodAll_below laidTreeIs hg (of_decide_eq_true (by kernel_rfl)) hA2 (fun x hx => by simpa using hW'.lt x hx)) rfl hg⟩

theorem treeIs_holds : Rows.TreeIsSaid :=
  OpenClaim.holds_of_wide 5 Try.f5 rfl rfl rfl rfl rfl rfl rfl ⟨rfl, rfl, rfl, rfl, rfl⟩ rfl rfl rfl rfl rfl (by kernel_rfl) Try.func5 (by kernel_rfl)
    (of_decide_eq_true (by kernel_rfl)) (by unfold Func.isWrapper; first | (rw [if_pos (by decide +kernel)]; kernel_rfl) | (rw [if_neg (by decide +kernel)]; exact ⟨rfl, rfl⟩))
    (fun os started H enc _ => treeIs_lifted os started H enc)
#print axioms treeIs_holds
end Go.Proofs.Ytlhjieapkcnghaa
