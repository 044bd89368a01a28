/- The law KindCalls by the abstract layer. -/
import Derived.Test.YtbgfcbicbkijaaaAbK
import Derived.Test.YtbgfcbicbkijaaaAbL
import Derived.Test.YtbgfcbicbkijaaaLaw15e
import Derived.Test.YtbgfcbicbkijaaaKindR1
namespace Go.Proofs.Ytbgfcbicbkijaaa
open Go.RowKit

theorem same_p (l r : List (List UInt8)) (a b : Bool) : PCall Try.prog 22 [.sl a (ssV l), .sl b (ssV r)] (.p (bV (decide (l = r)))) := by
  refine .ofCalls (R := .bool (decide (l = r))) (by kernel_rfl) (fun G w => .p _ _ (.v _ rfl)) fun w us hs hrel => ?_
  obtain ⟨u, v, rfl⟩ := us2 hs
  obtain ⟨C1, h1⟩ := hrel 0 _ u rfl rfl
  obtain ⟨C2, h2⟩ := hrel 1 _ v rfl rfl
  exact same_any u v l r _ _ w (VRel.toSl (fun x : List UInt8 => strOf x) l h1 fun _ => rfl) (VRel.toSl (fun x : List UInt8 => strOf x) r h2 fun _ => rfl)
theorem kcalls_p : PCall Try.prog 23 [] (.p (.sl true (ssV callsL))) := by
  refine PCall.of mixed tbOk [] Try.func23 rfl (by kernel_rfl) (Nat.zero_le _) ?_
  exact rfl
theorem kcall_p (s : List UInt8) (L : List Int) (a : Bool) : PCall Try.prog 20 [sV s, .sl a (isV L)] (.tup [.p (iV (callP s L).1), .p (bV (callP s L).2)]) := by
  refine .ofCalls (R := .tuple #[.int .i64 (callP s L).1, .bool (callP s L).2]) (by kernel_rfl) (fun G w => dtup2 rfl rfl) fun w us hs hrel => ?_
  obtain ⟨u, v, rfl⟩ := us2 hs
  obtain ⟨C1, h1⟩ := hrel 0 _ u rfl rfl
  obtain ⟨C2, h2⟩ := hrel 1 _ v rfl rfl
  have := h1.scalEq
  subst this
  have h := call_any ⟨s.toArray⟩ L v (fun _ => True) w (VRel.toSl (fun x : Int => Value.int .i64 x) L h2 fun _ => rfl)
  unfold CallGoal at h
  rw [progCall_eq] at h
  have e : (⟨s.toArray⟩ : ByteArray).toList = s := by rw [Lib.toList_data]
  rw [e] at h
  exact h
theorem rcall_p (s : List UInt8) (L : List Int) (a : Bool) : PCall Try.prog 21 [sV s, .sl a (isV L)] (.tup [.p (iV (callP s L).1), .p (bV (callP s L).2)]) := by
  refine .ofCalls (R := .tuple #[.int .i64 (callP s L).1, .bool (callP s L).2]) (by kernel_rfl) (fun G w => dtup2 rfl rfl) fun w us hs hrel => ?_
  obtain ⟨u, v, rfl⟩ := us2 hs
  obtain ⟨C1, h1⟩ := hrel 0 _ u rfl rfl
  obtain ⟨C2, h2⟩ := hrel 1 _ v rfl rfl
  have := h1.scalEq
  subst this
  have h := rcall_any ⟨s.toArray⟩ L v (fun _ => True) w (VRel.toSl (fun x : Int => Value.int .i64 x) L h2 fun _ => rfl)
  have e : (⟨s.toArray⟩ : ByteArray).toList = s := by rw [Lib.toList_data]
  rw [e] at h
  exact h
theorem awake15_p : PCall Try.prog 25 [] (.p (bV true)) := by
  refine .ofCalls (R := .bool true) (by kernel_rfl) (fun G w => .p _ _ (.v _ rfl)) fun w us hs hrel => ?_
  rw [us0 hs]
  exact awake15_any w
set_option maxRecDepth 100000 in
theorem law_kindCalls (s : List UInt8) (L : List Int) : PCall Try.prog 5 [sV s, .sl false (isV L)] (.p (bV true)) := by
  refine PCall.of mixed tbOk [(0, [0, 1]), (1, [0, 1, 5]), (2, [0, 1, 5, 6]), (3, [0, 1, 5, 6, 19]), (4, [0, 1, 5, 6]), (5, [0, 1, 5, 6]), (6, [0, 5, 7, 8]), (7, [7, 8, 9, 10]), (8, [4]), (1000003, [0, 1, 5, 6])] Try.func5 rfl (by kernel_rfl) (Nat.le_of_ble_eq_true rfl) ?_
  refine T_loop (fun k : Nat => ⟨[(0, .p (sV s)), (1, .p (.sl false (isV L))), (5, .own 0 31 1 (isV (L.take k))), (6, .p (iV k))], ⟨[], [(isV (L.take k)).length]⟩⟩) (fun k => k ≤ L.length ∧ k ≤ 6) (fun k => 6 - k) 0 ⟨by omega, by omega⟩ ((Le.own 5 31 1 (es := []) rfl (fun x hx => nomatch hx)).trans (.of_eq rfl)) ?_
  rintro k ⟨h1, h2⟩
  refine awp_sound mixed tbOk (lv := [(0, [0, 1]), (1, [0, 1, 5]), (2, [0, 1, 5, 6]), (3, [0, 1, 5, 6, 19]), (4, [0, 1, 5, 6]), (5, [0, 1, 5, 6]), (6, [0, 5, 7, 8]), (7, [7, 8, 9, 10]), (8, [4]), (1000003, [0, 1, 5, 6])]) _ _ _ ?_
  refine And.intro (fun h3 => ?_) (fun h3 => ?_)
  · have hk : k < L.length := by have := of_decide_eq_true h3; simp [isV] at this; omega
    have hT : isV (L.take (k + 1)) = isV (L.take k) ++ [[iV L[k]]] := by unfold isV; rw [List.take_succ_eq_append_getElem hk, List.map_append]; rfl
    refine And.intro (fun h4 => ?_) (fun h4 => ?_)
    · have hk6 : k < 6 := by have := of_decide_eq_true h4; omega
      refine Exists.intro _ (And.intro (by omega) (And.intro (show _ = some [iV L[k]] from by simp [isV, hk]) (And.intro rfl (And.intro (by decide) ?_))))
      refine And.intro rfl (And.intro ⟨isV_one [L[k]], ?_, ?_⟩ ?_)
      · show (_ + 1) * 8 ≤ _; simp [isV]; omega
      · show _ + 1 ≤ _; simp [isV]; omega
      exact ⟨k + 1, ⟨by omega, by omega⟩, by omega, Le.of_eq (Eq.trans (b := ⟨[(0, .p (sV s)), (1, .p (.sl false (isV L))), (5, .own 0 31 1 (isV (L.take k) ++ [[iV L[k]]])), (6, .p (iV (IntKind.i64.wrap ((k : Int) + 1))))], ⟨[], [(isV (L.take k) ++ [[iV L[k]]]).length]⟩⟩) rfl (by
        rw [w64 (by omega) (by omega), ← hT]; rfl))⟩
    · refine Exists.intro _ (Exists.intro _ (And.intro ((kcall_p s (L.take k) false) ).c ?_))
      refine Exists.intro _ (Exists.intro _ (And.intro ((rcall_p s (L.take k) false) ).c ?_))
      refine And.intro (fun _ => ?_) (fun h => absurd (h.symm.trans (beq_self_eq_true _)) (by simp))
      refine And.intro (fun _ => ?_) (fun h => absurd (h.symm.trans (beq_self_eq_true _)) (by simp))
      refine Exists.intro _ (Exists.intro _ (And.intro (kcalls_p ).c ?_))
      refine Exists.intro _ (Exists.intro _ (And.intro (rcalls_p ).c ?_))
      refine Exists.intro _ (Exists.intro _ (And.intro ((same_p callsL callsL true false) ).c ?_))
      refine And.intro (fun _ => ?_) (fun h => absurd (h.symm.trans (decide_eq_true rfl)) (by simp))
      refine Exists.intro _ (Exists.intro _ (And.intro (awake15_p ).c ?_))
      exact rfl
  · refine And.intro (fun e => nomatch e) (fun _ => ?_)
    refine Exists.intro _ (Exists.intro _ (And.intro ((kcall_p s (L.take k) false) ).c ?_))
    refine Exists.intro _ (Exists.intro _ (And.intro ((rcall_p s (L.take k) false) ).c ?_))
    refine And.intro (fun _ => ?_) (fun h => absurd (h.symm.trans (beq_self_eq_true _)) (by simp))
    refine And.intro (fun _ => ?_) (fun h => absurd (h.symm.trans (beq_self_eq_true _)) (by simp))
    refine Exists.intro _ (Exists.intro _ (And.intro (kcalls_p ).c ?_))
    refine Exists.intro _ (Exists.intro _ (And.intro (rcalls_p ).c ?_))
    refine Exists.intro _ (Exists.intro _ (And.intro ((same_p callsL callsL true false) ).c ?_))
    refine And.intro (fun _ => ?_) (fun h => absurd (h.symm.trans (decide_eq_true rfl)) (by simp))
    refine Exists.intro _ (Exists.intro _ (And.intro (awake15_p ).c ?_))
    exact rfl
theorem law_kindCalls_args (x0 x1 : V) (y0 : ArgTy Try.prog 9 x0) (y1 : ArgTy Try.prog 29 x1) : PCall Try.prog 5 [x0, x1] (.p (bV true)) := by
  obtain ⟨s, rfl, -⟩ := y0.str Try.underlying9
  obtain ⟨es, rfl, he, -⟩ := y1.slice Try.underlying29
  obtain ⟨L, rfl, -⟩ := Ty.asInts Try.underlying3 es he
  exact law_kindCalls s L
end Go.Proofs.Ytbgfcbicbkijaaa
