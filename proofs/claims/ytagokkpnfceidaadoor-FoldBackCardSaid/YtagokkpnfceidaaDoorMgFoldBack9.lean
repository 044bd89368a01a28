/- The proof's texts, part 9 of 11: the walks by a logic in which data are by value, the plain laws, and at the end the law, for every input. -/
import Derived.Test.YtagokkpnfceidaaDoorMgFoldBack8

section
set_option linter.unusedVariables false
set_option linter.unusedSimpArgs false
namespace Go.Proofs.YtagokkpnfceidaaDoor
open Go.RowKit

set_option maxRecDepth 100000 in
set_option maxHeartbeats 4000000 in
theorem utf_Next_ok : ∀ (p0 : (List UInt8)) (p1 : Int) (o : Int × Int), utf_Next p0 p1 = some o → PCall Tryd.prog 118 [sV p0, iV p1] (t_utf_Next o) := by
  intro p0 p1 o h
  unfold utf_Next at h
  refine PCall.ofB mixed tbOk utf_Next_lv Tryd.func118 rfl (by kernel_rfl) (Nat.le_of_ble_eq_true rfl) ?_
  refine st_bind h (fun o1 ho hk => ?_)
  refine Exists.intro (JP1 _ _ o1 .normal (utf_Next_J0_0 p0 p1)) (And.intro ?_ (join1 ?_))
  · have h := ho
    refine st_test h (fun hb h => ?_) (fun hb h => ?_)
    · refine JP1.a h ?_
      exact Le.tow 0 0 rfl (.cons rfl (.refl _) (.cons rfl (.refl _) (.cons rfl (.refl _) (.nil)))) (.refl _) rfl
    · refine vrfl ?_
      refine JP1.a h ?_
      exact Le.tow 0 0 rfl (.cons rfl (.refl _) (.cons rfl (.refl _) (.cons rfl (.refl _) (.nil)))) (.refl _) rfl
  · have h := hk
    refine st_test h (fun hb h => ?_) (fun hb h => ?_)
    · refine st_ret (t := t_utf_Next) h ?_
      exact .refl _
    · refine st_sidx h (fun x2 hi h => ?_)
      refine st_bind h (fun o3 ho hk => ?_)
      refine Exists.intro (JP2 _ _ o3 .normal (utf_Next_J1_0 p0 p1) .ret (utf_Next_J1_1 p0 p1)) (And.intro ?_ (join2 (fun y4 hy => ?_) (fun y5 hy => ?_)))
      · have h := ho
        refine st_test h (fun hb h => ?_) (fun hb h => ?_)
        · refine vrfl ?_
          refine JP2.b h ?_
          exact Le.tow 0 0 rfl (.cons rfl (.refl _) (.cons rfl (.refl _) (.nil))) (.refl _) rfl
        · refine st_bind h (fun o6 ho hk => ?_)
          refine Exists.intro (JP1 _ _ o6 .normal (utf_Next_J2_0 p0 p1 x2)) (And.intro ?_ (join1 ?_))
          · have h := ho
            refine st_test h (fun hb h => ?_) (fun hb h => ?_)
            · refine JP1.a h ?_
              exact Le.tow 0 0 rfl (.cons rfl (.refl _) (.cons rfl (.refl _) (.cons rfl (.refl _) (.cons rfl (.refl _) (.nil))))) (.refl _) rfl
            · refine JP1.a h ?_
              exact Le.tow 0 0 rfl (.cons rfl (.refl _) (.cons rfl (.refl _) (.cons rfl (.refl _) (.cons rfl (.refl _) (.nil))))) (.refl _) rfl
          · have h := hk
            refine st_test h (fun hb h => ?_) (fun hb h => ?_)
            · refine vrfl ?_
              refine JP2.a h ?_
              exact Le.tow 0 0 rfl (.cons rfl (.refl _) (.cons rfl (.refl _) (.cons rfl (.refl _) (.cons rfl (.refl _) (.cons rfl (.refl _) (.nil)))))) (.refl _) rfl
            · refine st_bind h (fun o7 ho hk => ?_)
              refine Exists.intro (JP1 _ _ o7 .normal (utf_Next_J3_0 p0 p1 x2)) (And.intro ?_ (join1 ?_))
              · have h := ho
                refine st_test h (fun hb h => ?_) (fun hb h => ?_)
                · refine JP1.a h ?_
                  exact Le.tow 0 0 rfl (.cons rfl (.refl _) (.cons rfl (.refl _) (.cons rfl (.refl _) (.cons rfl (.refl _) (.nil))))) (.refl _) rfl
                · refine JP1.a h ?_
                  exact Le.tow 0 0 rfl (.cons rfl (.refl _) (.cons rfl (.refl _) (.cons rfl (.refl _) (.cons rfl (.refl _) (.nil))))) (.refl _) rfl
              · have h := hk
                refine st_test h (fun hb h => ?_) (fun hb h => ?_)
                · refine vrfl ?_
                  refine JP2.a h ?_
                  exact Le.tow 0 0 rfl (.cons rfl (.refl _) (.cons rfl (.refl _) (.cons rfl (.refl _) (.cons rfl (.refl _) (.cons rfl (.refl _) (.nil)))))) (.refl _) rfl
                · refine st_bind h (fun o8 ho hk => ?_)
                  refine Exists.intro (JP1 _ _ o8 .normal (utf_Next_J4_0 p0 p1 x2)) (And.intro ?_ (join1 ?_))
                  · have h := ho
                    refine st_test h (fun hb h => ?_) (fun hb h => ?_)
                    · refine JP1.a h ?_
                      exact Le.tow 0 0 rfl (.cons rfl (.refl _) (.cons rfl (.refl _) (.cons rfl (.refl _) (.cons rfl (.refl _) (.nil))))) (.refl _) rfl
                    · refine JP1.a h ?_
                      exact Le.tow 0 0 rfl (.cons rfl (.refl _) (.cons rfl (.refl _) (.cons rfl (.refl _) (.cons rfl (.refl _) (.nil))))) (.refl _) rfl
                  · have h := hk
                    refine st_test h (fun hb h => ?_) (fun hb h => ?_)
                    · refine vrfl ?_
                      refine JP2.a h ?_
                      exact Le.tow 0 0 rfl (.cons rfl (.refl _) (.cons rfl (.refl _) (.cons rfl (.refl _) (.cons rfl (.refl _) (.cons rfl (.refl _) (.nil)))))) (.refl _) rfl
                    · refine JP2.b h ?_
                      exact Le.tow 0 0 rfl (.cons rfl (.refl _) (.cons rfl (.refl _) (.nil))) (.refl _) rfl
      · have h := (by rw [hy] at hk; exact hk)
        refine st_cuts (some (wr (p1 + 1))) none h (fun x9 hi h => ?_)
        refine st_call [sV x9, nV .i32 y4.1, iV y4.2.2] t_utf_tail h (fun x10 hy => (utf_tail_ok x9 y4.1 y4.2.2 x10 hy)) (fun x10 hy h => ?_)
        refine st_bind h (fun o11 ho hk => ?_)
        refine Exists.intro (JP1 _ _ o11 .normal (utf_Next_J5_0 y4 x10)) (And.intro ?_ (join1 ?_))
        · have h := ho
          refine st_test h (fun hb h => ?_) (fun hb h => ?_)
          · refine bT ?_
            refine JP1.a h ?_
            exact Le.tow 0 0 rfl (.cons rfl (.refl _) (.cons rfl (.refl _) (.cons rfl (.refl _) (.nil)))) (.refl _) rfl
          · refine st_test h (fun hb h => ?_) (fun hb h => ?_)
            · refine JP1.a h ?_
              exact Le.tow 0 0 rfl (.cons rfl (.refl _) (.cons rfl (.refl _) (.cons rfl (.refl _) (.nil)))) (.refl _) rfl
            · refine st_call [nV .i32 x10.1] t_utf_is h (fun x12 hy => (utf_is_ok x10.1 x12 hy)) (fun x12 hy h => ?_)
              refine JP1.a h ?_
              exact Le.tow 0 0 rfl (.cons rfl (.refl _) (.cons rfl (.refl _) (.cons rfl (.refl _) (.nil)))) (.refl _) rfl
        · have h := hk
          refine st_test h (fun hb h => ?_) (fun hb h => ?_)
          · refine st_ret (t := t_utf_Next) h ?_
            exact .refl _
          · refine st_ret (t := t_utf_Next) h ?_
            exact .refl _
      · have h := (by rw [hy] at hk; exact hk)
        refine st_ret (t := t_utf_Next) h ?_
        exact .refl _
noncomputable def utf_all_1_L1 (p0 : (List UInt8)) (v3 : Int) : Option ((List (Int × Int)) × (Unit)) :=
  if (decide (v3 < (p0.length : Int))) then
    utf_Next p0 v3 >>= fun x3 =>
    ( utf_all_1_L1 p0 (wr (v3 + x3.2))) >>= fun q => some ((x3.1, x3.2) :: q.1, q.2)
  else
    some ([], ())
  partial_fixpoint
set_option maxRecDepth 100000 in
set_option maxHeartbeats 4000000 in
theorem utf_all_1_L1_grp : ∀ (p0 : (List UInt8)), (∀ (v3 : Int) (o2 : (List (Int × Int)) × (Unit)), utf_all_1_L1 p0 v3 = some o2 → ∀ (gxs gp gpost gq1 : List (List V)), gxs = gp ++ (o2.1.map e_utf_all_1 ++ gpost) → gxs = gq1 ++ gpost → TL (0, 1) Tryd.prog 24 utf_all_1_L1_c (Qs (0, 1) 24 gxs (JP1 (0, 1) 24 o2.2 (.exit 0) (utf_all_1_L1_x0 p0 gxs gq1))) (utf_all_1_L1_st p0 v3 gxs gp)) := by
  intro p0
  refine utf_all_1_L1.partial_correctness p0 _ ?_
  intro utf_all_1_L1' ih_utf_all_1_L1 v3 o2 h
  intro gxs gp gpost gq1 hx hq
  refine TL.round (bwp_sound mixed tbOk (lv := utf_all_1_lv) _ _ _ ?_)
  refine vrfl ?_
  refine st_test h (fun hb h => ?_) (fun hb h => ?_)
  · refine st_call [sV p0, iV v3] t_utf_Next h (fun x3 hy => (utf_Next_ok p0 v3 x3 hy)) (fun x3 hy h => ?_)
    refine st_yld (c := e_utf_all_1) h hx (.refl _) (by exact rfl) (by exact rfl) (fun _ h hx => ?_) ?_
    · refine bF ?_
      refine TL.le (τ := utf_all_1_L1_st p0 (wr (v3 + x3.2)) gxs (gp ++ [e_utf_all_1 (x3.1, x3.2)])) ?_ ((ih_utf_all_1_L1 (wr (v3 + x3.2)) _ h) _ _ _ _ hx hq)
      exact Le.tow 0 1 rfl (.cons rfl (.refl _) (.cons rfl (.refl _) (.cons rfl (.refl _) (.nil)))) (.refl _) rfl
    · refine bT ?_
      exact .inr ⟨rfl, _, (Le.env0 _).trans (Le.tow 0 1 rfl .nil (.refl _) rfl), rfl, rfl, rfl⟩
  · exact .inl (JP1.a (sndI h) (Le.tow 0 1 rfl (.nil) (.refl _) (liveQ h hx hq rfl)))
theorem utf_all_1_L1_ok : ∀ (p0 : (List UInt8)) (v3 : Int) (o2 : (List (Int × Int)) × (Unit)), utf_all_1_L1 p0 v3 = some o2 → ∀ (gxs gp gpost gq1 : List (List V)), gxs = gp ++ (o2.1.map e_utf_all_1 ++ gpost) → gxs = gq1 ++ gpost → TL (0, 1) Tryd.prog 24 utf_all_1_L1_c (Qs (0, 1) 24 gxs (JP1 (0, 1) 24 o2.2 (.exit 0) (utf_all_1_L1_x0 p0 gxs gq1))) (utf_all_1_L1_st p0 v3 gxs gp) := fun p0 v3 o2 h => (utf_all_1_L1_grp p0) v3 o2 h
noncomputable def utf_all_1 (p0 : (List UInt8)) : Option ((List (Int × Int)) × Unit) :=
  ( utf_all_1_L1 p0 0) >>= fun o2 => (
    some ([], ())) >>= fun q => some (o2.1 ++ q.1, q.2)
set_option maxRecDepth 100000 in
set_option maxHeartbeats 4000000 in
theorem utf_all_1_ok : ∀ (p0 : (List UInt8)) (o : (List (Int × Int)) × Unit), utf_all_1 p0 = some o → ∀ gxs : List (List V), gxs = o.1.map e_utf_all_1 → IterOK Tryd.prog 117 [.ep [sV p0]] gxs := by
  intro p0 o h
  unfold utf_all_1 at h
  intro gxs hg
  have hx : gxs = [] ++ (o.1.map e_utf_all_1 ++ []) := by simp [hg]
  refine IterOK.ofB mixed tbOk utf_all_1_lv Tryd.func117 rfl (by kernel_rfl) (Nat.le_of_ble_eq_true rfl) rfl ?_
  refine st_bindI h hx (fun o2 lgq1 gq1 ho hk hxa hjgq1 => ?_)
  refine Exists.intro (Qs _ _ gxs (JP1 _ _ o2.2 (.exit 0) (utf_all_1_L1_x0 p0 gxs gq1))) (And.intro (T_le (τ := utf_all_1_L1_st p0 0 gxs ([] : List (List V))) ?_ (TL.loop ((utf_all_1_L1_ok p0 0 o2 ho) _ _ _ _ hxa hjgq1))) (joinS (join1 ?_) ?_))
  · exact Le.tow 0 1 rfl (.cons rfl (.refl _) (.cons rfl (.refl _) (.cons rfl (.refl _) (.nil)))) (.refl _) rfl
  · have h := hk
    have hx := hjgq1
    exact st_iend h hx (.inl rfl) rfl
  · exact fun s1 h1 h2 hs => st_istop (.inr rfl) hs
noncomputable def utf_Is (p0 : (List UInt8)) : Option (Bool) :=
  utf_all p0 >>= fun x1 =>
  utf_all_1 x1 >>= fun y5 =>
  (utf_Is_L1 x1 y5.1) >>= fun o6 =>
  match o6 with
  | .inl y7 =>
    some true
  | .inr y8 =>
    some false
set_option maxRecDepth 100000 in
set_option maxHeartbeats 4000000 in
theorem utf_Is_ok : ∀ (p0 : (List UInt8)) (o : Bool), utf_Is p0 = some o → PCall Tryd.prog 67 [sV p0] (t_utf_Is o) := by
  intro p0 o h
  unfold utf_Is at h
  refine PCall.ofB mixed tbOk utf_Is_lv Tryd.func67 rfl (by kernel_rfl) (Nat.le_of_ble_eq_true rfl) ?_
  refine st_call [sV p0] t_utf_all h (fun x1 hy => (utf_all_ok p0 x1 hy)) (fun x1 hy h => ?_)
  refine st_bind h (fun y5 hy5 h => ?_)
  refine st_bind h (fun o6 ho hk => ?_)
  refine Exists.intro (JP2 _ _ o6 .normal (utf_Is_L1_x0 x1) .ret (utf_Is_L1_x1 x1)) (And.intro (T_le (τ := utf_Is_L1_st x1) ?_ (T_range (g := 117) (cap := [.ep [sV x1]]) rfl ((utf_all_1_ok x1 y5 hy5) _ rfl) (mapSize fun _ => rfl) rfl (Nat.le_of_ble_eq_true rfl) (Nat.le_of_ble_eq_true rfl) (utf_Is_L1_ok x1 y5.1 o6 ho))) (join2 (fun y7 hy => ?_) (fun y8 hy => ?_)))
  · exact Le.tow 1 0 rfl (.cons rfl (.refl _) (.cons rfl (.refl _) (.nil))) (.refl _) rfl
  · have h := (by rw [hy] at hk; exact hk)
    refine st_ret (t := t_utf_Is) h ?_
    exact .refl _
  · have h := (by rw [hy] at hk; exact hk)
    refine st_ret (t := t_utf_Is) h ?_
    exact .refl _
noncomputable def fold_decoded (p0 : (List UInt8)) : Option ((List UInt8) × Bool) :=
  strings_CutPrefix p0 [61, 63, 85, 84, 70, 45, 56, 63, 66, 63] >>= fun x1 =>
  strings_CutSuffix x1.1 [63, 61] >>= fun x2 =>
  ( if (!x1.2) then
      some true
    else
      some (!x2.2) : Option (Bool)) >>= fun o3 =>
  if o3 then
    some (p0, false)
  else
    b64_Decode x2.1 >>= fun x4 =>
    ( if (x4.2 != 0) then
        some true
      else
        utf_Is x4.1 >>= fun x6 =>
        some (!x6) : Option (Bool)) >>= fun o5 =>
    if o5 then
      some (p0, false)
    else
      some (x4.1, true)
set_option maxRecDepth 100000 in
set_option maxHeartbeats 4000000 in
theorem fold_decoded_ok : ∀ (p0 : (List UInt8)) (o : (List UInt8) × Bool), fold_decoded p0 = some o → PCall Tryd.prog 38 [sV p0] (t_fold_decoded o) := by
  intro p0 o h
  unfold fold_decoded at h
  refine PCall.ofB mixed tbOk fold_decoded_lv Tryd.func38 rfl (by kernel_rfl) (Nat.le_of_ble_eq_true rfl) ?_
  refine st_call [sV p0, sV [61, 63, 85, 84, 70, 45, 56, 63, 66, 63]] t_strings_CutPrefix h (fun x1 hy => (strings_CutPrefix_ok p0 [61, 63, 85, 84, 70, 45, 56, 63, 66, 63] x1 hy)) (fun x1 hy h => ?_)
  refine st_call [sV x1.1, sV [63, 61]] t_strings_CutSuffix h (fun x2 hy => (strings_CutSuffix_ok x1.1 [63, 61] x2 hy)) (fun x2 hy h => ?_)
  refine st_bind h (fun o3 ho hk => ?_)
  refine Exists.intro (JP1 _ _ o3 .normal (fold_decoded_J0_0 p0 x2)) (And.intro ?_ (join1 ?_))
  · have h := ho
    refine st_test h (fun hb h => ?_) (fun hb h => ?_)
    · refine JP1.a h ?_
      exact Le.tow 0 0 rfl (.cons rfl (.refl _) (.cons rfl (.refl _) (.cons rfl (.refl _) (.nil)))) (.refl _) rfl
    · refine JP1.a h ?_
      exact Le.tow 0 0 rfl (.cons rfl (.refl _) (.cons rfl (.refl _) (.cons rfl (.refl _) (.nil)))) (.refl _) rfl
  · have h := hk
    refine st_test h (fun hb h => ?_) (fun hb h => ?_)
    · refine st_ret (t := t_fold_decoded) h ?_
      exact .refl _
    · refine st_call [sV x2.1] t_b64_Decode h (fun x4 hy => (b64_Decode_ok x2.1 x4 hy)) (fun x4 hy h => ?_)
      refine st_bind h (fun o5 ho hk => ?_)
      refine Exists.intro (JP1 _ _ o5 .normal (fold_decoded_J1_0 p0 x4)) (And.intro ?_ (join1 ?_))
      · have h := ho
        refine st_test h (fun hb h => ?_) (fun hb h => ?_)
        · refine JP1.a h ?_
          exact Le.tow 0 0 rfl (.cons rfl (.refl _) (.cons rfl (.refl _) (.cons rfl (.refl _) (.nil)))) (.refl _) rfl
        · refine st_call [sV x4.1] t_utf_Is h (fun x6 hy => (utf_Is_ok x4.1 x6 hy)) (fun x6 hy h => ?_)
          refine JP1.a h ?_
          exact Le.tow 0 0 rfl (.cons rfl (.refl _) (.cons rfl (.refl _) (.cons rfl (.refl _) (.nil)))) (.refl _) rfl
      · have h := hk
        refine st_test h (fun hb h => ?_) (fun hb h => ?_)
        · refine st_ret (t := t_fold_decoded) h ?_
          exact .refl _
        · refine st_ret (t := t_fold_decoded) h ?_
          exact .refl _
noncomputable def fold_Read_L1 (x2 : (List UInt8) × (List UInt8) × Bool) (x6 : (List (List UInt8))) (v42 : Int) (v10 : Bool) (v11 : Bool) (h0_0 : Bool) (h0_1 : (List Int)) : Option ((Bool × (List Int))) :=
  if (decide (v42 < (x6.length : Int))) then
    idx x6 v42 >>= fun x8 =>
    if (x8 == []) then
      fold_Read_L1 x2 x6 (wr (v42 + 1)) v10 v11 h0_0 h0_1
    else
      fold_decoded x8 >>= fun x9 =>
      ( if v10 then
          if v11 then
            some (!x9.2)
          else
            some true
        else
          some false : Option (Bool)) >>= fun o10 =>
      if o10 then
        strings_Builder_WriteByte_2 32 h0_0 h0_1 >>= fun x11 =>
        strings_Builder_WriteString_5 x9.1 x11.2.1 x11.2.2 >>= fun x12 =>
        fold_Read_L1 x2 x6 (wr (v42 + 1)) true x9.2 x12.2.2.1 x12.2.2.2
      else
        strings_Builder_WriteString_5 x9.1 h0_0 h0_1 >>= fun x13 =>
        fold_Read_L1 x2 x6 (wr (v42 + 1)) true x9.2 x13.2.2.1 x13.2.2.2
  else
    some (h0_0, h0_1)
  partial_fixpoint
set_option maxRecDepth 100000 in
set_option maxHeartbeats 4000000 in
theorem fold_Read_L1_grp : ∀ (x2 : (List UInt8) × (List UInt8) × Bool) (x6 : (List (List UInt8))), (∀ (v42 : Int) (v10 : Bool) (v11 : Bool) (h0_0 : Bool) (h0_1 : (List Int)) (o7 : (Bool × (List Int))), fold_Read_L1 x2 x6 v42 v10 v11 h0_0 h0_1 = some o7 → TL (0, 0) Tryd.prog 68 fold_Read_L1_c (JP1 (0, 0) 68 o7 (.exit 0) (fold_Read_L1_x0 x2 x6)) (fold_Read_L1_st x2 x6 v42 v10 v11 h0_0 h0_1)) := by
  intro x2 x6
  refine fold_Read_L1.partial_correctness x2 x6 _ ?_
  intro fold_Read_L1' ih_fold_Read_L1 v42 v10 v11 h0_0 h0_1 o7 h
  refine TL.round (bwp_sound mixed tbOk (lv := fold_Read_lv) _ _ _ ?_)
  refine st_test h (fun hb h => ?_) (fun hb h => ?_)
  · refine st_idx (l := x6) (c := cStr) (c' := cStr) h (fun _ => rfl) (fun _ => rfl) (by decide) (fun x8 hi h => ?_)
    refine st_test h (fun hb h => ?_) (fun hb h => ?_)
    · refine TL.le (τ := fold_Read_L1_st x2 x6 (wr (v42 + 1)) v10 v11 h0_0 h0_1) ?_ ((ih_fold_Read_L1 (wr (v42 + 1)) v10 v11 h0_0 h0_1 _ h))
      exact Le.tow 1 1 rfl (.cons rfl (.refl _) (.cons rfl (.refl _) (.cons rfl (.refl _) (.cons rfl (.refl _) (.cons rfl (.refl _) (.cons rfl (.refl _) (.cons rfl (.refl _) (.nil)))))))) (.refl _) rfl
    · refine st_call [sV x8] t_fold_decoded h (fun x9 hy => (fold_decoded_ok x8 x9 hy)) (fun x9 hy h => ?_)
      refine st_bind h (fun o10 ho hk => ?_)
      refine Exists.intro (JP1 _ _ o10 .normal (fold_Read_J1_0 x2 x6 v42 h0_0 h0_1 x9)) (And.intro ?_ (join1 ?_))
      · have h := ho
        refine st_test h (fun hb h => ?_) (fun hb h => ?_)
        · refine st_test h (fun hb h => ?_) (fun hb h => ?_)
          · refine JP1.a h ?_
            exact Le.tow 1 1 rfl (.cons rfl (.refl _) (.cons rfl (.refl _) (.cons rfl (.refl _) (.cons rfl (.refl _) (.cons rfl (.refl _) (.cons rfl (.refl _) (.cons rfl (.refl _) (.cons rfl (.refl _) (.nil))))))))) (.refl _) rfl
          · refine JP1.a h ?_
            exact Le.tow 1 1 rfl (.cons rfl (.refl _) (.cons rfl (.refl _) (.cons rfl (.refl _) (.cons rfl (.refl _) (.cons rfl (.refl _) (.cons rfl (.refl _) (.cons rfl (.refl _) (.cons rfl (.refl _) (.nil))))))))) (.refl _) rfl
        · refine JP1.a h ?_
          exact Le.tow 1 1 rfl (.cons rfl (.refl _) (.cons rfl (.refl _) (.cons rfl (.refl _) (.cons rfl (.refl _) (.cons rfl (.refl _) (.cons rfl (.refl _) (.cons rfl (.refl _) (.cons rfl (.refl _) (.nil))))))))) (.refl _) rfl
      · have h := hk
        refine st_test h (fun hb h => ?_) (fun hb h => ?_)
        · refine st_callc _ _ h (fun x11 hy => ((strings_Builder_WriteByte_2_ok 32 h0_0 h0_1 x11 hy).fr [0] [0] rfl rfl rfl)) (fun x11 hy h => ?_)
          refine st_callc _ _ h (fun x12 hy => ((strings_Builder_WriteString_5_ok x9.1 x11.2.1 x11.2.2 x12 hy).fr [0] [0] rfl rfl rfl)) (fun x12 hy h => ?_)
          refine TL.le (τ := fold_Read_L1_st x2 x6 (wr (v42 + 1)) true x9.2 x12.2.2.1 x12.2.2.2) ?_ ((ih_fold_Read_L1 (wr (v42 + 1)) true x9.2 x12.2.2.1 x12.2.2.2 _ h))
          exact Le.tow 1 1 rfl (.cons rfl (.refl _) (.cons rfl (.refl _) (.cons rfl (.refl _) (.cons rfl (.refl _) (.cons rfl (.refl _) (.cons rfl (.refl _) (.cons rfl (.refl _) (.nil)))))))) (.refl _) rfl
        · refine st_callc _ _ h (fun x13 hy => ((strings_Builder_WriteString_5_ok x9.1 h0_0 h0_1 x13 hy).fr [0] [0] rfl rfl rfl)) (fun x13 hy h => ?_)
          refine TL.le (τ := fold_Read_L1_st x2 x6 (wr (v42 + 1)) true x9.2 x13.2.2.1 x13.2.2.2) ?_ ((ih_fold_Read_L1 (wr (v42 + 1)) true x9.2 x13.2.2.1 x13.2.2.2 _ h))
          exact Le.tow 1 1 rfl (.cons rfl (.refl _) (.cons rfl (.refl _) (.cons rfl (.refl _) (.cons rfl (.refl _) (.cons rfl (.refl _) (.cons rfl (.refl _) (.cons rfl (.refl _) (.nil)))))))) (.refl _) rfl
  · exact JP1.a h (Le.tow 1 1 rfl (.cons rfl (.refl _) (.cons rfl (.refl _) (.nil))) (.refl _) rfl)
theorem fold_Read_L1_ok : ∀ (x2 : (List UInt8) × (List UInt8) × Bool) (x6 : (List (List UInt8))) (v42 : Int) (v10 : Bool) (v11 : Bool) (h0_0 : Bool) (h0_1 : (List Int)) (o7 : (Bool × (List Int))), fold_Read_L1 x2 x6 v42 v10 v11 h0_0 h0_1 = some o7 → TL (0, 0) Tryd.prog 68 fold_Read_L1_c (JP1 (0, 0) 68 o7 (.exit 0) (fold_Read_L1_x0 x2 x6)) (fold_Read_L1_st x2 x6 v42 v10 v11 h0_0 h0_1) := fun x2 x6 v42 v10 v11 h0_0 h0_1 o7 h => (fold_Read_L1_grp x2 x6) v42 v10 v11 h0_0 h0_1 o7 h
noncomputable def fold_blank (p0 : Int) : Option (Bool) :=
  ( if (p0 == 32) then
      some true
    else
      some (p0 == 9) : Option (Bool)) >>= fun o1 =>
  some o1
set_option maxRecDepth 100000 in
set_option maxHeartbeats 4000000 in
theorem fold_blank_ok : ∀ (p0 : Int) (o : Bool), fold_blank p0 = some o → PCall Tryd.prog 61 [nV .u8 p0] (t_fold_blank o) := by
  intro p0 o h
  unfold fold_blank at h
  refine PCall.ofB mixed tbOk fold_blank_lv Tryd.func61 rfl (by kernel_rfl) (Nat.le_of_ble_eq_true rfl) ?_
  refine st_bind h (fun o1 ho hk => ?_)
  refine Exists.intro (JP1 _ _ o1 .normal (fold_blank_J0_0 )) (And.intro ?_ (join1 ?_))
  · have h := ho
    refine st_test h (fun hb h => ?_) (fun hb h => ?_)
    · refine JP1.a h ?_
      exact Le.tow 0 0 rfl (.cons rfl (.refl _) (.nil)) (.refl _) rfl
    · refine JP1.a h ?_
      exact Le.tow 0 0 rfl (.cons rfl (.refl _) (.nil)) (.refl _) rfl
  · have h := hk
    refine st_ret (t := t_fold_blank) h ?_
    exact .refl _
noncomputable def fold_line_L1 (x1 : (List UInt8) × Bool) (v6 : Int) (h0_0 : Bool) (h0_1 : (List Int)) : Option ((Bool × (List Int)) ⊕ (Bool × (List Int))) :=
  if (decide (v6 < (x1.1.length : Int))) then
    ( octet_Begins x1.1 [13, 10] v6 >>= fun x6 =>
      if x6 then
        if (decide ((wr (v6 + 2)) < (x1.1.length : Int))) then
          idx x1.1 (wr (v6 + 2)) >>= fun x7 =>
          fold_blank (x7.toNat : Int) >>= fun x8 =>
          some x8
        else
          some false
      else
        some false : Option (Bool)) >>= fun o5 =>
    if o5 then
      fold_line_L1 x1 (wr ((wr (v6 + 1)) + 1)) h0_0 h0_1
    else
      ( idx x1.1 v6 >>= fun x10 =>
        if ((x10.toNat : Int) == 13) then
          some true
        else
          idx x1.1 v6 >>= fun x11 =>
          some ((x11.toNat : Int) == 10) : Option (Bool)) >>= fun o9 =>
      if o9 then
        some (.inr (h0_0, h0_1))
      else
        idx x1.1 v6 >>= fun x12 =>
        strings_Builder_WriteByte_2 (x12.toNat : Int) h0_0 h0_1 >>= fun x13 =>
        fold_line_L1 x1 (wr (v6 + 1)) x13.2.1 x13.2.2
  else
    some (.inl (h0_0, h0_1))
  partial_fixpoint
set_option maxRecDepth 100000 in
set_option maxHeartbeats 4000000 in
theorem fold_line_L1_grp : ∀ (x1 : (List UInt8) × Bool), (∀ (v6 : Int) (h0_0 : Bool) (h0_1 : (List Int)) (o2 : (Bool × (List Int)) ⊕ (Bool × (List Int))), fold_line_L1 x1 v6 h0_0 h0_1 = some o2 → TL (0, 0) Tryd.prog 54 fold_line_L1_c (JP2 (0, 0) 54 o2 (.exit 0) (fold_line_L1_x0 x1) .ret (fold_line_L1_x1 x1)) (fold_line_L1_st x1 v6 h0_0 h0_1)) := by
  intro x1
  refine fold_line_L1.partial_correctness x1 _ ?_
  intro fold_line_L1' ih_fold_line_L1 v6 h0_0 h0_1 o2 h
  refine TL.round (bwp_sound mixed tbOk (lv := fold_line_lv) _ _ _ ?_)
  refine vrfl ?_
  refine st_test h (fun hb h => ?_) (fun hb h => ?_)
  · refine st_bind h (fun o5 ho hk => ?_)
    refine Exists.intro (JP1 _ _ o5 .normal (fold_line_J0_0 x1 v6 h0_0 h0_1)) (And.intro ?_ (join1 ?_))
    · have h := ho
      refine st_call [sV x1.1, sV [13, 10], iV v6] t_octet_Begins h (fun x6 hy => (octet_Begins_ok x1.1 [13, 10] v6 x6 hy)) (fun x6 hy h => ?_)
      refine st_test h (fun hb h => ?_) (fun hb h => ?_)
      · refine vrfl ?_
        refine st_test h (fun hb h => ?_) (fun hb h => ?_)
        · refine st_sidx h (fun x7 hi h => ?_)
          refine st_call [nV .u8 (x7.toNat : Int)] t_fold_blank h (fun x8 hy => (fold_blank_ok (x7.toNat : Int) x8 hy)) (fun x8 hy h => ?_)
          refine JP1.a h ?_
          exact Le.tow 1 1 rfl (.cons rfl (.refl _) (.cons rfl (.refl _) (.cons rfl (.refl _) (.cons rfl (.refl _) (.nil))))) (.refl _) rfl
        · refine JP1.a h ?_
          exact Le.tow 1 1 rfl (.cons rfl (.refl _) (.cons rfl (.refl _) (.cons rfl (.refl _) (.cons rfl (.refl _) (.nil))))) (.refl _) rfl
      · refine bF ?_
        refine JP1.a h ?_
        exact Le.tow 1 1 rfl (.cons rfl (.refl _) (.cons rfl (.refl _) (.cons rfl (.refl _) (.cons rfl (.refl _) (.nil))))) (.refl _) rfl
    · have h := hk
      refine st_test h (fun hb h => ?_) (fun hb h => ?_)
      · refine TL.le (τ := fold_line_L1_st x1 (wr ((wr (v6 + 1)) + 1)) h0_0 h0_1) ?_ ((ih_fold_line_L1 (wr ((wr (v6 + 1)) + 1)) h0_0 h0_1 _ h))
        exact Le.tow 1 1 rfl (.cons rfl (.refl _) (.cons rfl (.refl _) (.cons rfl (.refl _) (.nil)))) (.refl _) rfl
      · refine st_bind h (fun o9 ho hk => ?_)
        refine Exists.intro (JP1 _ _ o9 .normal (fold_line_J1_0 x1 v6 h0_0 h0_1)) (And.intro ?_ (join1 ?_))
        · have h := ho
          refine st_sidx h (fun x10 hi h => ?_)
          refine st_test h (fun hb h => ?_) (fun hb h => ?_)
          · refine JP1.a h ?_
            exact Le.tow 1 1 rfl (.cons rfl (.refl _) (.cons rfl (.refl _) (.cons rfl (.refl _) (.cons rfl (.refl _) (.nil))))) (.refl _) rfl
          · refine st_sidx h (fun x11 hi h => ?_)
            refine JP1.a h ?_
            exact Le.tow 1 1 rfl (.cons rfl (.refl _) (.cons rfl (.refl _) (.cons rfl (.refl _) (.cons rfl (.refl _) (.nil))))) (.refl _) rfl
        · have h := hk
          refine st_test h (fun hb h => ?_) (fun hb h => ?_)
          · exact JP2.b h (Le.tow 1 1 rfl (.cons rfl (.refl _) (.cons rfl (.refl _) (.nil))) (.refl _) rfl)
          · refine st_sidx h (fun x12 hi h => ?_)
            refine st_callc _ _ h (fun x13 hy => ((strings_Builder_WriteByte_2_ok (x12.toNat : Int) h0_0 h0_1 x13 hy).fr [0] [0] rfl rfl rfl)) (fun x13 hy h => ?_)
            refine TL.le (τ := fold_line_L1_st x1 (wr (v6 + 1)) x13.2.1 x13.2.2) ?_ ((ih_fold_line_L1 (wr (v6 + 1)) x13.2.1 x13.2.2 _ h))
            exact Le.tow 1 1 rfl (.cons rfl (.refl _) (.cons rfl (.refl _) (.cons rfl (.refl _) (.nil)))) (.refl _) rfl
  · exact JP2.a h (Le.tow 1 1 rfl (.cons rfl (.refl _) (.nil)) (.refl _) rfl)
theorem fold_line_L1_ok : ∀ (x1 : (List UInt8) × Bool) (v6 : Int) (h0_0 : Bool) (h0_1 : (List Int)) (o2 : (Bool × (List Int)) ⊕ (Bool × (List Int))), fold_line_L1 x1 v6 h0_0 h0_1 = some o2 → TL (0, 0) Tryd.prog 54 fold_line_L1_c (JP2 (0, 0) 54 o2 (.exit 0) (fold_line_L1_x0 x1) .ret (fold_line_L1_x1 x1)) (fold_line_L1_st x1 v6 h0_0 h0_1) := fun x1 v6 h0_0 h0_1 o2 h => (fold_line_L1_grp x1) v6 h0_0 h0_1 o2 h
noncomputable def fold_line (p0 : (List UInt8)) : Option ((List UInt8) × Bool) :=
  strings_CutSuffix p0 [13, 10] >>= fun x1 =>
  if (!x1.2) then
    some ([], false)
  else
    (fold_line_L1 x1 0 false []) >>= fun o2 =>
    match o2 with
    | .inl y3 =>
      strings_Builder_String_4 y3.1 y3.2 >>= fun x14 =>
      some (x14, true)
    | .inr y4 =>
      some ([], false)
set_option maxRecDepth 100000 in
set_option maxHeartbeats 4000000 in
theorem fold_line_ok : ∀ (p0 : (List UInt8)) (o : (List UInt8) × Bool), fold_line p0 = some o → PCall Tryd.prog 34 [sV p0] (t_fold_line o) := by
  intro p0 o h
  unfold fold_line at h
  refine PCall.ofB mixed tbOk fold_line_lv Tryd.func34 rfl (by kernel_rfl) (Nat.le_of_ble_eq_true rfl) ?_
  refine st_call [sV p0, sV [13, 10]] t_strings_CutSuffix h (fun x1 hy => (strings_CutSuffix_ok p0 [13, 10] x1 hy)) (fun x1 hy h => ?_)
  refine st_test h (fun hb h => ?_) (fun hb h => ?_)
  · refine st_ret (t := t_fold_line) h ?_
    exact .refl _
  · refine st_bind h (fun o2 ho hk => ?_)
    refine Exists.intro (JP2 _ _ o2 (.exit 0) (fold_line_L1_x0 x1) .ret (fold_line_L1_x1 x1)) (And.intro (T_le (τ := fold_line_L1_st x1 0 false []) ?_ (TL.loop (fold_line_L1_ok x1 0 false [] o2 ho))) (join2 (fun y3 hy => ?_) (fun y4 hy => ?_)))
    · exact (Le.ownH 0 1 5 1 rfl rfl sizeNil).trans (Le.tow 1 1 rfl (.cons rfl (.refl _) (.cons rfl (.refl _) (.cons rfl (.refl _) (.nil)))) (.refl _) rfl)
    · have h := (by rw [hy] at hk; exact hk)
      refine st_callc _ _ h (fun x14 hy => ((strings_Builder_String_4_ok y3.1 y3.2 x14 hy).fr [0] [0] rfl rfl rfl)) (fun x14 hy h => ?_)
      refine st_ret (t := t_fold_line) h ?_
      exact .refl _
    · have h := (by rw [hy] at hk; exact hk)
      refine st_ret (t := t_fold_line) h ?_
      exact .refl _
noncomputable def fold_name_L1 (p0 : (List UInt8)) (v7 : Int) : Option (Unit ⊕ Unit) :=
  if (decide (v7 < (p0.length : Int))) then
    idx p0 v7 >>= fun x4 =>
    ( if (decide ((bits .or .u8 (x4.toNat : Int) 32) < 97)) then
        if (decide ((x4.toNat : Int) < 48)) then
          some ((x4.toNat : Int) != 45)
        else
          if (decide ((x4.toNat : Int) > 57)) then
            some ((x4.toNat : Int) != 45)
          else
            some false
      else
        if (decide ((bits .or .u8 (x4.toNat : Int) 32) > 122)) then
          if (decide ((x4.toNat : Int) < 48)) then
            some ((x4.toNat : Int) != 45)
          else
            if (decide ((x4.toNat : Int) > 57)) then
              some ((x4.toNat : Int) != 45)
            else
              some false
        else
          some false : Option (Bool)) >>= fun o5 =>
    if o5 then
      some (.inr ())
    else
      fold_name_L1 p0 (wr (v7 + 1))
  else
    some (.inl ())
  partial_fixpoint
set_option maxRecDepth 100000 in
set_option maxHeartbeats 4000000 in
theorem fold_name_L1_grp : ∀ (p0 : (List UInt8)), (∀ (v7 : Int) (o1 : Unit ⊕ Unit), fold_name_L1 p0 v7 = some o1 → TL (0, 0) Tryd.prog 41 fold_name_L1_c (JP2 (0, 0) 41 o1 (.exit 0) (fold_name_L1_x0 p0) .ret (fold_name_L1_x1 p0)) (fold_name_L1_st p0 v7)) := by
  intro p0
  refine fold_name_L1.partial_correctness p0 _ ?_
  intro fold_name_L1' ih_fold_name_L1 v7 o1 h
  refine TL.round (bwp_sound mixed tbOk (lv := fold_name_lv) _ _ _ ?_)
  refine st_test h (fun hb h => ?_) (fun hb h => ?_)
  · refine st_sidx h (fun x4 hi h => ?_)
    refine st_bind h (fun o5 ho hk => ?_)
    refine Exists.intro (JP1 _ _ o5 .normal (fold_name_J0_0 p0 v7)) (And.intro ?_ (join1 ?_))
    · have h := ho
      refine st_test h (fun hb h => ?_) (fun hb h => ?_)
      · refine bT ?_
        refine st_test h (fun hb h => ?_) (fun hb h => ?_)
        · refine bT ?_
          refine JP1.a h ?_
          exact Le.tow 0 0 rfl (.cons rfl (.refl _) (.cons rfl (.refl _) (.cons rfl (.refl _) (.cons rfl (.refl _) (.nil))))) (.refl _) rfl
        · refine st_test h (fun hb h => ?_) (fun hb h => ?_)
          · refine JP1.a h ?_
            exact Le.tow 0 0 rfl (.cons rfl (.refl _) (.cons rfl (.refl _) (.cons rfl (.refl _) (.cons rfl (.refl _) (.nil))))) (.refl _) rfl
          · refine JP1.a h ?_
            exact Le.tow 0 0 rfl (.cons rfl (.refl _) (.cons rfl (.refl _) (.cons rfl (.refl _) (.cons rfl (.refl _) (.nil))))) (.refl _) rfl
      · refine st_test h (fun hb h => ?_) (fun hb h => ?_)
        · refine st_test h (fun hb h => ?_) (fun hb h => ?_)
          · refine bT ?_
            refine JP1.a h ?_
            exact Le.tow 0 0 rfl (.cons rfl (.refl _) (.cons rfl (.refl _) (.cons rfl (.refl _) (.cons rfl (.refl _) (.nil))))) (.refl _) rfl
          · refine st_test h (fun hb h => ?_) (fun hb h => ?_)
            · refine JP1.a h ?_
              exact Le.tow 0 0 rfl (.cons rfl (.refl _) (.cons rfl (.refl _) (.cons rfl (.refl _) (.cons rfl (.refl _) (.nil))))) (.refl _) rfl
            · refine JP1.a h ?_
              exact Le.tow 0 0 rfl (.cons rfl (.refl _) (.cons rfl (.refl _) (.cons rfl (.refl _) (.cons rfl (.refl _) (.nil))))) (.refl _) rfl
        · refine bF ?_
          refine JP1.a h ?_
          exact Le.tow 0 0 rfl (.cons rfl (.refl _) (.cons rfl (.refl _) (.cons rfl (.refl _) (.cons rfl (.refl _) (.nil))))) (.refl _) rfl
    · have h := hk
      refine st_test h (fun hb h => ?_) (fun hb h => ?_)
      · exact JP2.b h (Le.tow 0 0 rfl (.cons rfl (.refl _) (.nil)) (.refl _) rfl)
      · refine TL.le (τ := fold_name_L1_st p0 (wr (v7 + 1))) ?_ ((ih_fold_name_L1 (wr (v7 + 1)) _ h))
        exact Le.tow 0 0 rfl (.cons rfl (.refl _) (.cons rfl (.refl _) (.cons rfl (.refl _) (.nil)))) (.refl _) rfl
  · exact JP2.a h (Le.tow 0 0 rfl (.cons rfl (.refl _) (.nil)) (.refl _) rfl)
theorem fold_name_L1_ok : ∀ (p0 : (List UInt8)) (v7 : Int) (o1 : Unit ⊕ Unit), fold_name_L1 p0 v7 = some o1 → TL (0, 0) Tryd.prog 41 fold_name_L1_c (JP2 (0, 0) 41 o1 (.exit 0) (fold_name_L1_x0 p0) .ret (fold_name_L1_x1 p0)) (fold_name_L1_st p0 v7) := fun p0 v7 o1 h => (fold_name_L1_grp p0) v7 o1 h
noncomputable def fold_name (p0 : (List UInt8)) : Option (Bool) :=
  (fold_name_L1 p0 0) >>= fun o1 =>
  match o1 with
  | .inl y2 =>
    ( if (!(p0 == [])) then
        some (decide ((p0.length : Int) ≤ 32))
      else
        some false : Option (Bool)) >>= fun o6 =>
    some o6
  | .inr y3 =>
    some false
set_option maxRecDepth 100000 in
set_option maxHeartbeats 4000000 in
theorem fold_name_ok : ∀ (p0 : (List UInt8)) (o : Bool), fold_name p0 = some o → PCall Tryd.prog 25 [sV p0] (t_fold_name o) := by
  intro p0 o h
  unfold fold_name at h
  refine PCall.ofB mixed tbOk fold_name_lv Tryd.func25 rfl (by kernel_rfl) (Nat.le_of_ble_eq_true rfl) ?_
  refine vrfl ?_
  refine st_bind h (fun o1 ho hk => ?_)
  refine Exists.intro (JP2 _ _ o1 (.exit 0) (fold_name_L1_x0 p0) .ret (fold_name_L1_x1 p0)) (And.intro (T_le (τ := fold_name_L1_st p0 0) ?_ (TL.loop (fold_name_L1_ok p0 0 o1 ho))) (join2 (fun y2 hy => ?_) (fun y3 hy => ?_)))
  · exact Le.tow 0 0 rfl (.cons rfl (.refl _) (.cons rfl (.refl _) (.cons rfl (.refl _) (.nil)))) (.refl _) rfl
  · have h := (by rw [hy] at hk; exact hk)
    refine st_bind h (fun o6 ho hk => ?_)
    refine Exists.intro (JP1 _ _ o6 .normal (fold_name_J1_0 )) (And.intro ?_ (join1 ?_))
    · have h := ho
      refine st_test h (fun hb h => ?_) (fun hb h => ?_)
      · refine vrfl ?_
        refine JP1.a h ?_
        exact Le.tow 0 0 rfl (.cons rfl (.refl _) (.nil)) (.refl _) rfl
      · refine JP1.a h ?_
        exact Le.tow 0 0 rfl (.cons rfl (.refl _) (.nil)) (.refl _) rfl
    · have h := hk
      refine st_ret (t := t_fold_name) h ?_
      exact .refl _
  · have h := (by rw [hy] at hk; exact hk)
    refine st_ret (t := t_fold_name) h ?_
    exact .refl _
noncomputable def octet_Cut (p0 : (List UInt8)) (p1 : Int) : Option ((List (List UInt8))) :=
  need (p0.length ≤ 1000000000) >>= fun _ =>
  some (cutC p1.toNat.toUInt8 p0)
set_option maxRecDepth 100000 in
set_option maxHeartbeats 4000000 in
theorem octet_Cut_ok : ∀ (p0 : (List UInt8)) (p1 : Int) (o : (List (List UInt8))), octet_Cut p0 p1 = some o → PCall Tryd.prog 36 [sV p0, nV .u8 p1] (t_octet_Cut o) := by
  intro p0 p1 o h
  unfold octet_Cut at h
  obtain ⟨h1, h⟩ := need_some h
  cases h
  exact cut_ok _ _ h1
noncomputable def internal_stringslite_Index (p0 : (List UInt8)) (p1 : (List UInt8)) : Option (Int) :=
  need (p0.length < 4294967281) >>= fun _ =>
  some (Lib.index p0 p1)
set_option maxRecDepth 100000 in
set_option maxHeartbeats 4000000 in
theorem internal_stringslite_Index_ok : ∀ (p0 : (List UInt8)) (p1 : (List UInt8)) (o : Int), internal_stringslite_Index p0 p1 = some o → PCall Tryd.prog 94 [sV p0, sV p1] (t_internal_stringslite_Index o) := by
  intro p0 p1 o h
  unfold internal_stringslite_Index at h
  obtain ⟨h1, h⟩ := need_some h
  cases h
  exact index_ok _ _ h1
noncomputable def internal_stringslite_Cut (p0 : (List UInt8)) (p1 : (List UInt8)) : Option ((List UInt8) × (List UInt8) × Bool) :=
  internal_stringslite_Index p0 p1 >>= fun x1 =>
  if (decide (x1 ≥ 0)) then
    cutL p0 0 x1 >>= fun x2 =>
    cutL p0 (wr (x1 + (p1.length : Int))) (p0.length : Int) >>= fun x3 =>
    some (x2, x3, true)
  else
    some (p0, [], false)
set_option maxRecDepth 100000 in
set_option maxHeartbeats 4000000 in
theorem internal_stringslite_Cut_ok : ∀ (p0 : (List UInt8)) (p1 : (List UInt8)) (o : (List UInt8) × (List UInt8) × Bool), internal_stringslite_Cut p0 p1 = some o → PCall Tryd.prog 62 [sV p0, sV p1] (t_internal_stringslite_Cut o) := by
  intro p0 p1 o h
  unfold internal_stringslite_Cut at h
  refine PCall.ofB mixed tbOk internal_stringslite_Cut_lv Tryd.func62 rfl (by kernel_rfl) (Nat.le_of_ble_eq_true rfl) ?_
  refine st_call [sV p0, sV p1] t_internal_stringslite_Index h (fun x1 hy => (internal_stringslite_Index_ok p0 p1 x1 hy)) (fun x1 hy h => ?_)
  refine st_test h (fun hb h => ?_) (fun hb h => ?_)
  · refine And.intro (by decide +kernel) (And.intro rfl ?_)
    refine st_cuts none (some x1) h (fun x2 hi h => ?_)
    refine vrfl ?_
    refine st_cuts (some (wr (x1 + (p1.length : Int)))) none h (fun x3 hi h => ?_)
    refine st_ret (t := t_internal_stringslite_Cut) h ?_
    exact .refl _
  · refine st_ret (t := t_internal_stringslite_Cut) h ?_
    exact .refl _
noncomputable def strings_Cut (p0 : (List UInt8)) (p1 : (List UInt8)) : Option ((List UInt8) × (List UInt8) × Bool) :=
  internal_stringslite_Cut p0 p1 >>= fun x1 =>
  some (x1.1, x1.2.1, x1.2.2)
set_option maxRecDepth 100000 in
set_option maxHeartbeats 4000000 in
theorem strings_Cut_ok : ∀ (p0 : (List UInt8)) (p1 : (List UInt8)) (o : (List UInt8) × (List UInt8) × Bool), strings_Cut p0 p1 = some o → PCall Tryd.prog 35 [sV p0, sV p1] (t_strings_Cut o) := by
  intro p0 p1 o h
  unfold strings_Cut at h
  refine PCall.ofB mixed tbOk strings_Cut_lv Tryd.func35 rfl (by kernel_rfl) (Nat.le_of_ble_eq_true rfl) ?_
  refine st_call [sV p0, sV p1] t_internal_stringslite_Cut h (fun x1 hy => (internal_stringslite_Cut_ok p0 p1 x1 hy)) (fun x1 hy h => ?_)
  refine st_ret (t := t_strings_Cut) h ?_
  exact .refl _
noncomputable def strings_ReplaceAll (p0 : (List UInt8)) (p1 : (List UInt8)) (p2 : (List UInt8)) : Option ((List UInt8)) :=
  need (p0.length < 4294967281) >>= fun _ =>
  need (1 ≤ p1.length) >>= fun _ =>
  need (p0.length + Lib.countB ⟨p0.toArray⟩ ⟨p1.toArray⟩ * p2.length ≤ 140737488355328) >>= fun _ =>
  some (Lib.replaceAll p0 p1 p2)
set_option maxRecDepth 100000 in
set_option maxHeartbeats 4000000 in
theorem strings_ReplaceAll_ok : ∀ (p0 : (List UInt8)) (p1 : (List UInt8)) (p2 : (List UInt8)) (o : (List UInt8)), strings_ReplaceAll p0 p1 p2 = some o → PCall Tryd.prog 37 [sV p0, sV p1, sV p2] (t_strings_ReplaceAll o) := by
  intro p0 p1 p2 o h
  unfold strings_ReplaceAll at h
  obtain ⟨h1, h⟩ := need_some h
  obtain ⟨h2, h⟩ := need_some h
  obtain ⟨h3, h⟩ := need_some h
  cases h
  exact replaceAll_ok _ _ _ h1 h2 h3
noncomputable def fold_Read (p0 : (List UInt8)) : Option ((List UInt8) × (List UInt8) × Int) :=
  fold_line p0 >>= fun x1 =>
  strings_Cut x1.1 [58] >>= fun x2 =>
  ( if (!x1.2) then
      some true
    else
      if (!x2.2.2) then
        some true
      else
        fold_name x2.1 >>= fun x4 =>
        some (!x4) : Option (Bool)) >>= fun o3 =>
  if o3 then
    some ([], [], 7)
  else
    strings_ReplaceAll x2.2.1 [9] [32] >>= fun x5 =>
    octet_Cut x5 32 >>= fun x6 =>
    (fold_Read_L1 x2 x6 0 false false false []) >>= fun o7 =>
    strings_Builder_String_4 o7.1 o7.2 >>= fun x14 =>
    some (x2.1, x14, 0)
set_option maxRecDepth 100000 in
set_option maxHeartbeats 4000000 in
theorem fold_Read_ok : ∀ (p0 : (List UInt8)) (o : (List UInt8) × (List UInt8) × Int), fold_Read p0 = some o → PCall Tryd.prog 15 [sV p0] (t_fold_Read o) := by
  intro p0 o h
  unfold fold_Read at h
  refine PCall.ofB mixed tbOk fold_Read_lv Tryd.func15 rfl (by kernel_rfl) (Nat.le_of_ble_eq_true rfl) ?_
  refine st_call [sV p0] t_fold_line h (fun x1 hy => (fold_line_ok p0 x1 hy)) (fun x1 hy h => ?_)
  refine st_call [sV x1.1, sV [58]] t_strings_Cut h (fun x2 hy => (strings_Cut_ok x1.1 [58] x2 hy)) (fun x2 hy h => ?_)
  refine st_bind h (fun o3 ho hk => ?_)
  refine Exists.intro (JP1 _ _ o3 .normal (fold_Read_J0_0 x2)) (And.intro ?_ (join1 ?_))
  · have h := ho
    refine st_test h (fun hb h => ?_) (fun hb h => ?_)
    · refine bT ?_
      refine JP1.a h ?_
      exact Le.tow 0 0 rfl (.cons rfl (.refl _) (.cons rfl (.refl _) (.cons rfl (.refl _) (.nil)))) (.refl _) rfl
    · refine st_test h (fun hb h => ?_) (fun hb h => ?_)
      · refine JP1.a h ?_
        exact Le.tow 0 0 rfl (.cons rfl (.refl _) (.cons rfl (.refl _) (.cons rfl (.refl _) (.nil)))) (.refl _) rfl
      · refine st_call [sV x2.1] t_fold_name h (fun x4 hy => (fold_name_ok x2.1 x4 hy)) (fun x4 hy h => ?_)
        refine JP1.a h ?_
        exact Le.tow 0 0 rfl (.cons rfl (.refl _) (.cons rfl (.refl _) (.cons rfl (.refl _) (.nil)))) (.refl _) rfl
  · have h := hk
    refine st_test h (fun hb h => ?_) (fun hb h => ?_)
    · refine st_ret (t := t_fold_Read) h ?_
      exact .refl _
    · refine st_call [sV x2.2.1, sV [9], sV [32]] t_strings_ReplaceAll h (fun x5 hy => (strings_ReplaceAll_ok x2.2.1 [9] [32] x5 hy)) (fun x5 hy h => ?_)
      refine st_call [sV x5, nV .u8 32] t_octet_Cut h (fun x6 hy => (octet_Cut_ok x5 32 x6 hy)) (fun x6 hy h => ?_)
      refine view (lenMap _ _) rfl ?_
      refine st_bind h (fun o7 ho hk => ?_)
      refine Exists.intro (JP1 _ _ o7 (.exit 0) (fold_Read_L1_x0 x2 x6)) (And.intro (T_le (τ := fold_Read_L1_st x2 x6 0 false false false []) ?_ (TL.loop (fold_Read_L1_ok x2 x6 0 false false false [] o7 ho))) (join1 ?_))
      · exact (Le.ownH 0 1 5 1 rfl rfl sizeNil).trans (Le.tow 1 1 rfl (.cons rfl (.refl _) (.cons rfl (.refl _) (.cons rfl (.refl _) (.cons rfl (.refl _) (.cons rfl (.refl _) (.cons rfl (.refl _) (.cons rfl (.refl _) (.nil)))))))) (.refl _) rfl)
      have h := hk
      refine st_callc _ _ h (fun x14 hy => ((strings_Builder_String_4_ok o7.1 o7.2 x14 hy).fr [0] [0] rfl rfl rfl)) (fun x14 hy h => ?_)
      refine st_ret (t := t_fold_Read) h ?_
      exact .refl _
noncomputable def strings_Builder_copyCheck_2 (h0_0 : Bool) (h0_1 : (List Int)) (h0_2 : Int) : Option (Bool) :=
  some true
set_option maxRecDepth 100000 in
set_option maxHeartbeats 4000000 in
theorem strings_Builder_copyCheck_2_ok : ∀ (h0_0 : Bool) (h0_1 : (List Int)) (h0_2 : Int) (o : Bool), strings_Builder_copyCheck_2 h0_0 h0_1 h0_2 = some o → CallOK Tryd.prog 53 [.ptr 0 0] ⟨[[.sp Tryd.prog 44 h0_0 0 0, .own 0 5 1 (h0_1.map (cNum .u8)), .p (iV h0_2)]], [(h0_1.map (cNum .u8)).length]⟩ (t_strings_Builder_copyCheck_2 o) ⟨[[.sp Tryd.prog 44 o 0 0, .own 0 5 1 (h0_1.map (cNum .u8)), .p (iV h0_2)]], [(h0_1.map (cNum .u8)).length]⟩ := by
  intro h0_0 h0_1 h0_2 o h
  unfold strings_Builder_copyCheck_2 at h
  cases h
  exact copyCheck_ok [[.sp Tryd.prog 44 h0_0 0 0, .own 0 5 1 (h0_1.map (cNum .u8)), .p (iV h0_2)]] _ 0 [.sp Tryd.prog 44 h0_0 0 0, .own 0 5 1 (h0_1.map (cNum .u8)), .p (iV h0_2)] rfl rfl
noncomputable def strings_Builder_WriteString_3 (p1 : (List UInt8)) (h0_0 : Bool) (h0_1 : (List Int)) (h0_2 : Int) : Option (Int × Unit × Bool × (List Int)) :=
  strings_Builder_copyCheck_2 h0_0 h0_1 h0_2 >>= fun x1 =>
  appL 1 h0_1 (s2b p1) >>= fun x2 =>
  some ((p1.length : Int), (), x1, x2)
set_option maxRecDepth 100000 in
set_option maxHeartbeats 4000000 in
theorem strings_Builder_WriteString_3_ok : ∀ (p1 : (List UInt8)) (h0_0 : Bool) (h0_1 : (List Int)) (h0_2 : Int) (o : Int × Unit × Bool × (List Int)), strings_Builder_WriteString_3 p1 h0_0 h0_1 h0_2 = some o → CallOK Tryd.prog 26 [.ptr 0 0, .p (sV p1)] ⟨[[.sp Tryd.prog 44 h0_0 0 0, .own 0 5 1 (h0_1.map (cNum .u8)), .p (iV h0_2)]], [(h0_1.map (cNum .u8)).length]⟩ (t_strings_Builder_WriteString_3 o) ⟨[[.sp Tryd.prog 44 o.2.2.1 0 0, .own 0 5 1 (o.2.2.2.map (cNum .u8)), .p (iV h0_2)]], [(o.2.2.2.map (cNum .u8)).length]⟩ := by
  intro p1 h0_0 h0_1 h0_2 o h
  unfold strings_Builder_WriteString_3 at h
  refine CallOK.ofB mixed tbOk strings_Builder_WriteString_3_lv Tryd.func26 rfl (by kernel_rfl) (Nat.le_of_ble_eq_true rfl) rfl rfl rfl ?_
  refine st_callc _ _ h (fun x1 hy => ((strings_Builder_copyCheck_2_ok h0_0 h0_1 h0_2 x1 hy).fr [0] [0] rfl rfl rfl)) (fun x1 hy h => ?_)
  refine st_appso (a := h0_1) (b := p1) h rfl (fun x2 hi h => ?_)
  refine vrfl ?_
  refine Exists.intro _ (And.intro (Le.refl _ _ _) ?_)
  exact st_retc (t := t_strings_Builder_WriteString_3) (ss := fun o => ⟨[[.sp Tryd.prog 44 o.2.2.1 0 0, .own 0 5 1 (o.2.2.2.map (cNum .u8)), .p (iV h0_2)]], [(o.2.2.2.map (cNum .u8)).length]⟩) h ⟨[0], rfl, .refl _, .refl _, rfl⟩
noncomputable def strings_Builder_copyCheck_5 (h0_0 : Bool) (h0_1 : (List Int)) (h0_2 : Int) : Option (Bool) :=
  some true
set_option maxRecDepth 100000 in
set_option maxHeartbeats 4000000 in
theorem strings_Builder_copyCheck_5_ok : ∀ (h0_0 : Bool) (h0_1 : (List Int)) (h0_2 : Int) (o : Bool), strings_Builder_copyCheck_5 h0_0 h0_1 h0_2 = some o → CallOK Tryd.prog 53 [.ptr 0 0] ⟨[[.sp Tryd.prog 44 h0_0 0 0, .own 0 5 1 (h0_1.map (cNum .u8)), .p (iV h0_2)]], [(h0_1.map (cNum .u8)).length]⟩ (t_strings_Builder_copyCheck_5 o) ⟨[[.sp Tryd.prog 44 o 0 0, .own 0 5 1 (h0_1.map (cNum .u8)), .p (iV h0_2)]], [(h0_1.map (cNum .u8)).length]⟩ := by
  intro h0_0 h0_1 h0_2 o h
  unfold strings_Builder_copyCheck_5 at h
  cases h
  exact copyCheck_ok [[.sp Tryd.prog 44 h0_0 0 0, .own 0 5 1 (h0_1.map (cNum .u8)), .p (iV h0_2)]] _ 0 [.sp Tryd.prog 44 h0_0 0 0, .own 0 5 1 (h0_1.map (cNum .u8)), .p (iV h0_2)] rfl rfl
noncomputable def strings_Builder_WriteString_4 (p1 : (List UInt8)) (h0_0 : Bool) (h0_1 : (List Int)) (h0_2 : Int) : Option (Int × Unit × Bool × (List Int)) :=
  strings_Builder_copyCheck_5 h0_0 h0_1 h0_2 >>= fun x1 =>
  appL 1 h0_1 (s2b p1) >>= fun x2 =>
  some ((p1.length : Int), (), x1, x2)
set_option maxRecDepth 100000 in
set_option maxHeartbeats 4000000 in
theorem strings_Builder_WriteString_4_ok : ∀ (p1 : (List UInt8)) (h0_0 : Bool) (h0_1 : (List Int)) (h0_2 : Int) (o : Int × Unit × Bool × (List Int)), strings_Builder_WriteString_4 p1 h0_0 h0_1 h0_2 = some o → CallOK Tryd.prog 26 [.ptr 0 0, .p (sV p1)] ⟨[[.sp Tryd.prog 44 h0_0 0 0, .own 0 5 1 (h0_1.map (cNum .u8)), .p (iV h0_2)]], [(h0_1.map (cNum .u8)).length]⟩ (t_strings_Builder_WriteString_4 o) ⟨[[.sp Tryd.prog 44 o.2.2.1 0 0, .own 0 5 1 (o.2.2.2.map (cNum .u8)), .p (iV h0_2)]], [(o.2.2.2.map (cNum .u8)).length]⟩ := by
  intro p1 h0_0 h0_1 h0_2 o h
  unfold strings_Builder_WriteString_4 at h
  refine CallOK.ofB mixed tbOk strings_Builder_WriteString_4_lv Tryd.func26 rfl (by kernel_rfl) (Nat.le_of_ble_eq_true rfl) rfl rfl rfl ?_
  refine st_callc _ _ h (fun x1 hy => ((strings_Builder_copyCheck_5_ok h0_0 h0_1 h0_2 x1 hy).fr [0] [0] rfl rfl rfl)) (fun x1 hy h => ?_)
  refine st_appso (a := h0_1) (b := p1) h rfl (fun x2 hi h => ?_)
  refine vrfl ?_
  refine Exists.intro _ (And.intro (Le.refl _ _ _) ?_)
  exact st_retc (t := t_strings_Builder_WriteString_4) (ss := fun o => ⟨[[.sp Tryd.prog 44 o.2.2.1 0 0, .own 0 5 1 (o.2.2.2.map (cNum .u8)), .p (iV h0_2)]], [(o.2.2.2.map (cNum .u8)).length]⟩) h ⟨[0], rfl, .refl _, .refl _, rfl⟩
noncomputable def fold_lines_put_2 (p1 : (List UInt8)) (h0_0 : Bool) (h0_1 : (List Int)) (h0_2 : Int) : Option (Bool × (List Int) × Int) :=
  ( if (decide ((p1.length : Int) ≥ (wr (76 - h0_2)))) then
      strings_Builder_WriteString_3 [13, 10] h0_0 h0_1 h0_2 >>= fun x2 =>
      some (x2.2.2.1, x2.2.2.2, 0)
    else
      some (h0_0, h0_1, h0_2) : Option ((Bool × (List Int) × Int))) >>= fun o1 =>
  need ([32].length + p1.length ≤ 9223372036854775807) >>= fun _ =>
  strings_Builder_WriteString_4 ([32] ++ p1) o1.1 o1.2.1 o1.2.2 >>= fun x3 =>
  some (x3.2.2.1, x3.2.2.2, (wr (o1.2.2 + (wr (1 + (p1.length : Int))))))
set_option maxRecDepth 100000 in
set_option maxHeartbeats 4000000 in
theorem fold_lines_put_2_ok : ∀ (p1 : (List UInt8)) (h0_0 : Bool) (h0_1 : (List Int)) (h0_2 : Int) (o : Bool × (List Int) × Int), fold_lines_put_2 p1 h0_0 h0_1 h0_2 = some o → CallOK Tryd.prog 28 [.ptr 0 0, .p (sV p1)] ⟨[[.sp Tryd.prog 44 h0_0 0 0, .own 0 5 1 (h0_1.map (cNum .u8)), .p (iV h0_2)]], [(h0_1.map (cNum .u8)).length]⟩ (t_fold_lines_put_2 o) ⟨[[.sp Tryd.prog 44 o.1 0 0, .own 0 5 1 (o.2.1.map (cNum .u8)), .p (iV o.2.2)]], [(o.2.1.map (cNum .u8)).length]⟩ := by
  intro p1 h0_0 h0_1 h0_2 o h
  unfold fold_lines_put_2 at h
  refine CallOK.ofB mixed tbOk fold_lines_put_2_lv Tryd.func28 rfl (by kernel_rfl) (Nat.le_of_ble_eq_true rfl) rfl rfl rfl ?_
  refine st_bind h (fun o1 ho hk => ?_)
  refine Exists.intro (JP1 _ _ o1 .normal (fold_lines_put_2_J0_0 p1)) (And.intro ?_ (join1 ?_))
  · have h := ho
    refine vrfl ?_
    refine st_test h (fun hb h => ?_) (fun hb h => ?_)
    · refine st_callc _ _ h (fun x2 hy => ((strings_Builder_WriteString_3_ok [13, 10] h0_0 h0_1 h0_2 x2 hy).fr [0] [0] rfl rfl rfl)) (fun x2 hy h => ?_)
      refine JP1.a h ?_
      exact Le.tow 1 1 rfl (.cons rfl (.refl _) (.cons rfl (.refl _) (.nil))) (.refl _) rfl
    · refine JP1.a h ?_
      exact Le.tow 1 1 rfl (.cons rfl (.refl _) (.cons rfl (.refl _) (.nil))) (.refl _) rfl
  · have h := hk
    refine st_need h (fun h => ?_)
    refine st_callc _ _ h (fun x3 hy => ((strings_Builder_WriteString_4_ok ([32] ++ p1) o1.1 o1.2.1 o1.2.2 x3 hy).fr [0] [0] rfl rfl rfl)) (fun x3 hy h => ?_)
    refine vrfl ?_
    refine Exists.intro _ (And.intro (Le.refl _ _ _) ?_)
    exact st_retc (t := t_fold_lines_put_2) (ss := fun o => ⟨[[.sp Tryd.prog 44 o.1 0 0, .own 0 5 1 (o.2.1.map (cNum .u8)), .p (iV o.2.2)]], [(o.2.1.map (cNum .u8)).length]⟩) h ⟨[0], rfl, .refl _, .refl _, rfl⟩
noncomputable def fold_Write_L1 (x3 : (List UInt8)) (l6 : (List (List UInt8))) (h0_0 : Bool) (h0_1 : (List Int)) (h0_2 : Int) : Option ((Bool × (List Int) × Int)) :=
  match l6 with
  | [] =>
    some (h0_0, h0_1, h0_2)
  | x4 :: r5 =>
    fold_lines_put_2 x4 h0_0 h0_1 h0_2 >>= fun x9 =>
    fold_Write_L1 x3 r5 x9.1 x9.2.1 x9.2.2
  partial_fixpoint
set_option maxRecDepth 100000 in
set_option maxHeartbeats 4000000 in
theorem fold_Write_L1_grp : ∀ (x3 : (List UInt8)), (∀ (l6 : (List (List UInt8))) (h0_0 : Bool) (h0_1 : (List Int)) (h0_2 : Int) (o8 : (Bool × (List Int) × Int)), fold_Write_L1 x3 l6 h0_0 h0_1 h0_2 = some o8 → RL 1 1 Tryd.prog 28 (rgP fold_Write_L1_c) (rgA fold_Write_L1_c) (rgB fold_Write_L1_c) (fold_Write_L1_st x3 h0_0 h0_1 h0_2).env (JP1 (0, 0) 28 o8 .normal (fold_Write_L1_x0 x3)) (l6.map e_fold_words_1) (fold_Write_L1_st x3 h0_0 h0_1 h0_2).s) := by
  intro x3
  refine fold_Write_L1.partial_correctness x3 _ ?_
  intro fold_Write_L1' ih_fold_Write_L1 l6 h0_0 h0_1 h0_2 o8 h
  cases l6 with
  | nil =>
    refine rl_nil ?_
    exact JP1.a h (Le.tow 1 1 rfl (.cons rfl (.refl _) (.cons rfl (.refl _) (.nil))) (.refl _) rfl)
  | cons x4 r5 =>
    refine rl_cons (bwp_sound mixed tbOk (lv := fold_Write_lv) _ _ _ ?_)
    refine And.intro rfl (bwp_sound mixed tbOk (lv := fold_Write_lv) _ _ _ ?_)
    refine st_callc _ _ h (fun x9 hy => ((fold_lines_put_2_ok x4 h0_0 h0_1 h0_2 x9 hy).fr [0] [0] rfl rfl rfl)) (fun x9 hy h => ?_)
    exact Exists.intro (fold_Write_L1_st x3 x9.1 x9.2.1 x9.2.2).s (And.intro (Le.tow 1 1 rfl (.nil) (.refl _) rfl) (And.intro rfl (And.intro rfl ((ih_fold_Write_L1 r5 x9.1 x9.2.1 x9.2.2 _ h)))))
theorem fold_Write_L1_ok : ∀ (x3 : (List UInt8)) (l6 : (List (List UInt8))) (h0_0 : Bool) (h0_1 : (List Int)) (h0_2 : Int) (o8 : (Bool × (List Int) × Int)), fold_Write_L1 x3 l6 h0_0 h0_1 h0_2 = some o8 → RL 1 1 Tryd.prog 28 (rgP fold_Write_L1_c) (rgA fold_Write_L1_c) (rgB fold_Write_L1_c) (fold_Write_L1_st x3 h0_0 h0_1 h0_2).env (JP1 (0, 0) 28 o8 .normal (fold_Write_L1_x0 x3)) (l6.map e_fold_words_1) (fold_Write_L1_st x3 h0_0 h0_1 h0_2).s := fun x3 l6 h0_0 h0_1 h0_2 o8 h => (fold_Write_L1_grp x3) l6 h0_0 h0_1 h0_2 o8 h
noncomputable def fold_words (p0 : (List UInt8)) : Option ((List UInt8)) :=
  some p0
set_option maxRecDepth 100000 in
set_option maxHeartbeats 4000000 in
theorem fold_words_ok : ∀ (p0 : (List UInt8)) (o : (List UInt8)), fold_words p0 = some o → PCall Tryd.prog 27 [sV p0] (t_fold_words o) := by
  intro p0 o h
  unfold fold_words at h
  refine PCall.ofM mixed tbOk fold_words_lv Tryd.func27 rfl (by kernel_rfl) (Nat.le_of_ble_eq_true rfl) ?_
  refine st_ret (t := t_fold_words) h ?_
  exact .refl _
noncomputable def fold_words_1_L1 (x2 : (List (List UInt8))) (v16 : Int) : Option ((List (List UInt8)) × (Unit)) :=
  if (decide (v16 < (x2.length : Int))) then
    idx x2 v16 >>= fun x5 =>
    ( fold_words_1_L1 x2 (wr (v16 + 1))) >>= fun q => some (x5 :: q.1, q.2)
  else
    some ([], ())
  partial_fixpoint
set_option maxRecDepth 100000 in
set_option maxHeartbeats 4000000 in
theorem fold_words_1_L1_grp : ∀ (x2 : (List (List UInt8))), (∀ (v16 : Int) (o4 : (List (List UInt8)) × (Unit)), fold_words_1_L1 x2 v16 = some o4 → ∀ (gxs gp gpost gq3 : List (List V)), gxs = gp ++ (o4.1.map e_fold_words_1 ++ gpost) → gxs = gq3 ++ gpost → TL (0, 1) Tryd.prog 57 fold_words_1_L1_c (Qs (0, 1) 57 gxs (JP1 (0, 1) 57 o4.2 (.exit 0) (fold_words_1_L1_x0 x2 gxs gq3))) (fold_words_1_L1_st x2 v16 gxs gp)) := by
  intro x2
  refine fold_words_1_L1.partial_correctness x2 _ ?_
  intro fold_words_1_L1' ih_fold_words_1_L1 v16 o4 h
  intro gxs gp gpost gq3 hx hq
  refine TL.round (bwp_sound mixed tbOk (lv := fold_words_1_lv) _ _ _ ?_)
  refine st_test h (fun hb h => ?_) (fun hb h => ?_)
  · refine st_idx (l := x2) (c := cStr) (c' := cStr) h (fun _ => rfl) (fun _ => rfl) (by decide) (fun x5 hi h => ?_)
    refine st_yld (c := e_fold_words_1) h hx (.refl _) (by exact rfl) (by exact rfl) (fun _ h hx => ?_) ?_
    · refine bF ?_
      refine TL.le (τ := fold_words_1_L1_st x2 (wr (v16 + 1)) gxs (gp ++ [e_fold_words_1 x5])) ?_ ((ih_fold_words_1_L1 (wr (v16 + 1)) _ h) _ _ _ _ hx hq)
      exact Le.tow 0 1 rfl (.cons rfl (.refl _) (.cons rfl (.refl _) (.cons rfl (.refl _) (.cons rfl (.refl _) (.nil))))) (.refl _) rfl
    · refine bT ?_
      exact .inr ⟨rfl, _, (Le.env0 _).trans (Le.tow 0 1 rfl .nil (.refl _) rfl), rfl, rfl, rfl⟩
  · exact .inl (JP1.a (sndI h) (Le.tow 0 1 rfl (.nil) (.refl _) (liveQ h hx hq rfl)))
theorem fold_words_1_L1_ok : ∀ (x2 : (List (List UInt8))) (v16 : Int) (o4 : (List (List UInt8)) × (Unit)), fold_words_1_L1 x2 v16 = some o4 → ∀ (gxs gp gpost gq3 : List (List V)), gxs = gp ++ (o4.1.map e_fold_words_1 ++ gpost) → gxs = gq3 ++ gpost → TL (0, 1) Tryd.prog 57 fold_words_1_L1_c (Qs (0, 1) 57 gxs (JP1 (0, 1) 57 o4.2 (.exit 0) (fold_words_1_L1_x0 x2 gxs gq3))) (fold_words_1_L1_st x2 v16 gxs gp) := fun x2 v16 o4 h => (fold_words_1_L1_grp x2) v16 o4 h
noncomputable def utf_Bytes (p0 : Int) : Option ((List UInt8)) :=
  need (0 ≤ p0) >>= fun _ =>
  need (runeN p0.toNat = true) >>= fun _ =>
  some (ubN p0.toNat)
set_option maxRecDepth 100000 in
set_option maxHeartbeats 4000000 in
theorem utf_Bytes_ok : ∀ (p0 : Int) (o : (List UInt8)), utf_Bytes p0 = some o → PCall Tryd.prog 56 [nV .i32 p0] (t_utf_Bytes o) := by
  intro p0 o h
  unfold utf_Bytes at h
  obtain ⟨h1, h⟩ := need_some h
  obtain ⟨h2, h⟩ := need_some h
  cases h
  exact bytes_ok _ h1 h2
noncomputable def fold_words_1_L2 (x6 : (List Int)) (v5 : (List UInt8)) (v28 : Int) : Option ((List (List UInt8)) × ((List UInt8))) :=
  if (decide (v28 < (x6.length : Int))) then
    idx x6 v28 >>= fun x9 =>
    utf_Bytes x9 >>= fun x10 =>
    ( if (decide ((x10.length : Int) > (wr (45 - (v5.length : Int))))) then
        b64_Encode v5 >>= fun x13 =>
        need ([61, 63, 85, 84, 70, 45, 56, 63, 66, 63].length + x13.length ≤ 9223372036854775807) >>= fun _ =>
        need (([61, 63, 85, 84, 70, 45, 56, 63, 66, 63] ++ x13).length + [63, 61].length ≤ 9223372036854775807) >>= fun _ =>
        ( some ([], [])) >>= fun q => some ((([61, 63, 85, 84, 70, 45, 56, 63, 66, 63] ++ x13) ++ [63, 61]) :: q.1, q.2)
      else
        some ([], v5) : Option ((List (List UInt8)) × ((List UInt8)))) >>= fun o12 => (
      need (o12.2.length + x10.length ≤ 9223372036854775807) >>= fun _ =>
      fold_words_1_L2 x6 (o12.2 ++ x10) (wr (v28 + 1))) >>= fun q => some (o12.1 ++ q.1, q.2)
  else
    some ([], v5)
  partial_fixpoint
set_option maxRecDepth 100000 in
set_option maxHeartbeats 4000000 in
theorem fold_words_1_L2_grp : ∀ (x6 : (List Int)), (∀ (v5 : (List UInt8)) (v28 : Int) (o8 : (List (List UInt8)) × ((List UInt8))), fold_words_1_L2 x6 v5 v28 = some o8 → ∀ (gxs gp gpost gq7 : List (List V)), gxs = gp ++ (o8.1.map e_fold_words_1 ++ gpost) → gxs = gq7 ++ gpost → TL (0, 1) Tryd.prog 57 fold_words_1_L2_c (Qs (0, 1) 57 gxs (JP1 (0, 1) 57 o8.2 (.exit 2) (fold_words_1_L2_x0 x6 gxs gq7))) (fold_words_1_L2_st x6 v5 v28 gxs gp)) := by
  intro x6
  refine fold_words_1_L2.partial_correctness x6 _ ?_
  intro fold_words_1_L2' ih_fold_words_1_L2 v5 v28 o8 h
  intro gxs gp gpost gq7 hx hq
  refine TL.round (bwp_sound mixed tbOk (lv := fold_words_1_lv) _ _ _ ?_)
  refine st_test h (fun hb h => ?_) (fun hb h => ?_)
  · refine st_idx (l := x6) (c := (cNum .i32)) (c' := (cNum .i32)) h (fun _ => rfl) (fun _ => rfl) (by decide) (fun x9 hi h => ?_)
    refine st_call [nV .i32 x9] t_utf_Bytes h (fun x10 hy => (utf_Bytes_ok x9 x10 hy)) (fun x10 hy h => ?_)
    refine st_bindI h hx (fun o12 lgq11 gq11 ho hk hxa hjgq11 => ?_)
    refine Exists.intro (Qs _ _ gxs (JP1 _ _ o12.2 .normal (fold_words_1_J0_0 x6 v28 x10 gxs gq11))) (And.intro ?_ (joinS (join1 ?_) ?_))
    · have h := ho
      have hx := hxa
      refine vrfl ?_
      refine vrfl ?_
      refine st_test h (fun hb h => ?_) (fun hb h => ?_)
      · refine st_call [sV v5] t_b64_Encode h (fun x13 hy => (b64_Encode_ok v5 x13 hy)) (fun x13 hy h => ?_)
        refine st_need h (fun h => ?_)
        refine st_need h (fun h => ?_)
        refine st_yld (c := e_fold_words_1) h hx (.refl _) (by exact rfl) (by exact rfl) (fun _ h hx => ?_) ?_
        · refine bF ?_
          exact .inl (JP1.a (sndI h) (Le.tow 0 1 rfl (.cons rfl (.refl _) (.cons rfl (.refl _) (.cons rfl (.refl _) (.cons rfl (.refl _) (.cons rfl (.refl _) (.cons rfl (.refl _) (.nil))))))) (.refl _) (liveQ h hx hjgq11 rfl)))
        · refine bT ?_
          exact .inr ⟨rfl, _, (Le.env0 _).trans (Le.tow 0 1 rfl .nil (.refl _) rfl), rfl, rfl, rfl⟩
      · exact .inl (JP1.a (sndI h) (Le.tow 0 1 rfl (.cons rfl (.refl _) (.cons rfl (.refl _) (.cons rfl (.refl _) (.cons rfl (.refl _) (.cons rfl (.refl _) (.cons rfl (.refl _) (.nil))))))) (.refl _) (liveQ h hx hjgq11 rfl)))
    · have h := hk
      have hx := hjgq11
      refine st_need h (fun h => ?_)
      refine TL.le (τ := fold_words_1_L2_st x6 (o12.2 ++ x10) (wr (v28 + 1)) gxs gq11) ?_ ((ih_fold_words_1_L2 (o12.2 ++ x10) (wr (v28 + 1)) _ h) _ _ _ _ hx hq)
      exact Le.tow 0 1 rfl (.cons rfl (.refl _) (.cons rfl (.refl _) (.cons rfl (.refl _) (.cons rfl (.refl _) (.cons rfl (.refl _) (.nil)))))) (.refl _) rfl
    · exact fun s1 h1 h2 hs => .inr ⟨rfl, s1, .refl _ _ _, h1, h2, hs⟩
  · exact .inl (JP1.a (sndI h) (Le.tow 0 1 rfl (.cons rfl (.refl _) (.cons rfl (.refl _) (.nil))) (.refl _) (liveQ h hx hq rfl)))
theorem fold_words_1_L2_ok : ∀ (x6 : (List Int)) (v5 : (List UInt8)) (v28 : Int) (o8 : (List (List UInt8)) × ((List UInt8))), fold_words_1_L2 x6 v5 v28 = some o8 → ∀ (gxs gp gpost gq7 : List (List V)), gxs = gp ++ (o8.1.map e_fold_words_1 ++ gpost) → gxs = gq7 ++ gpost → TL (0, 1) Tryd.prog 57 fold_words_1_L2_c (Qs (0, 1) 57 gxs (JP1 (0, 1) 57 o8.2 (.exit 2) (fold_words_1_L2_x0 x6 gxs gq7))) (fold_words_1_L2_st x6 v5 v28 gxs gp) := fun x6 v5 v28 o8 h => (fold_words_1_L2_grp x6) v5 v28 o8 h
noncomputable def utf_Runes_L1 (x1 : (List UInt8)) (l4 : (List (Int × Int))) (h0_0 : (List Int)) : Option ((List Int)) :=
  match l4 with
  | [] =>
    some h0_0
  | x2 :: r3 =>
    appL 4 h0_0 [x2.1] >>= fun x7 =>
    utf_Runes_L1 x1 r3 x7
  partial_fixpoint
set_option maxRecDepth 100000 in
set_option maxHeartbeats 4000000 in
theorem utf_Runes_L1_grp : ∀ (x1 : (List UInt8)), (∀ (l4 : (List (Int × Int))) (h0_0 : (List Int)) (o6 : (List Int)), utf_Runes_L1 x1 l4 h0_0 = some o6 → RL 1 1 Tryd.prog 14 (rgP utf_Runes_L1_c) (rgA utf_Runes_L1_c) (rgB utf_Runes_L1_c) (utf_Runes_L1_st x1 h0_0).env (JP1 (0, 0) 14 o6 .normal (utf_Runes_L1_x0 x1)) (l4.map e_utf_all_1) (utf_Runes_L1_st x1 h0_0).s) := by
  intro x1
  refine utf_Runes_L1.partial_correctness x1 _ ?_
  intro utf_Runes_L1' ih_utf_Runes_L1 l4 h0_0 o6 h
  cases l4 with
  | nil =>
    refine rl_nil ?_
    exact JP1.a h (Le.tow 1 1 rfl (.cons rfl (.refl _) (.cons rfl (.refl _) (.nil))) (.refl _) rfl)
  | cons x2 r3 =>
    refine rl_cons (bwp_sound mixed tbOk (lv := utf_Runes_lv) _ _ _ ?_)
    refine And.intro rfl (bwp_sound mixed tbOk (lv := utf_Runes_lv) _ _ _ ?_)
    refine st_appo (a := h0_0) (b := [x2.1]) (c := (cNum .i32)) h (.refl _) (fun _ => rfl) rfl (fun x7 hi h => ?_)
    exact Exists.intro (utf_Runes_L1_st x1 x7).s (And.intro (Le.tow 1 1 rfl (.nil) (.refl _) rfl) (And.intro rfl (And.intro rfl ((ih_utf_Runes_L1 r3 x7 _ h)))))
theorem utf_Runes_L1_ok : ∀ (x1 : (List UInt8)) (l4 : (List (Int × Int))) (h0_0 : (List Int)) (o6 : (List Int)), utf_Runes_L1 x1 l4 h0_0 = some o6 → RL 1 1 Tryd.prog 14 (rgP utf_Runes_L1_c) (rgA utf_Runes_L1_c) (rgB utf_Runes_L1_c) (utf_Runes_L1_st x1 h0_0).env (JP1 (0, 0) 14 o6 .normal (utf_Runes_L1_x0 x1)) (l4.map e_utf_all_1) (utf_Runes_L1_st x1 h0_0).s := fun x1 l4 h0_0 o6 h => (utf_Runes_L1_grp x1) l4 h0_0 o6 h
noncomputable def utf_Runes (p0 : (List UInt8)) : Option ((List Int)) :=
  utf_all p0 >>= fun x1 =>
  utf_all_1 x1 >>= fun y5 =>
  (utf_Runes_L1 x1 y5.1 []) >>= fun o6 =>
  some o6
set_option maxRecDepth 100000 in
set_option maxHeartbeats 4000000 in
theorem utf_Runes_ok : ∀ (p0 : (List UInt8)) (o : (List Int)), utf_Runes p0 = some o → PCall Tryd.prog 55 [sV p0] (t_utf_Runes o) := by
  intro p0 o h
  unfold utf_Runes at h
  refine PCall.ofB mixed tbOk utf_Runes_lv Tryd.func55 rfl (by kernel_rfl) (Nat.le_of_ble_eq_true rfl) ?_
  refine st_call [sV p0] t_utf_all h (fun x1 hy => (utf_all_ok p0 x1 hy)) (fun x1 hy h => ?_)
  refine st_bind h (fun y5 hy5 h => ?_)
  refine st_bind h (fun o6 ho hk => ?_)
  refine Exists.intro (JP1 _ _ o6 .normal (utf_Runes_L1_x0 x1)) (And.intro (T_le (τ := utf_Runes_L1_st x1 []) ?_ (T_range (g := 117) (cap := [.ep [sV x1]]) rfl ((utf_all_1_ok x1 y5 hy5) _ rfl) (mapSize fun _ => rfl) rfl (Nat.le_of_ble_eq_true rfl) (Nat.le_of_ble_eq_true rfl) (utf_Runes_L1_ok x1 y5.1 [] o6 ho))) (join1 ?_))
  · exact (Le.ownH 0 0 21 1 rfl rfl sizeNil).trans (Le.tow 1 1 rfl (.cons rfl (.refl _) (.cons rfl (.refl _) (.nil))) (.refl _) rfl)
  have h := hk
  refine st_ret (t := t_utf_Runes) h ?_
  exact .refl _
noncomputable def fold_words_1 (p0 : (List UInt8)) : Option ((List (List UInt8)) × Unit) :=
  if (p0 == []) then
    some ([], ())
  else
    fold_Plain p0 >>= fun x1 =>
    if x1 then
      octet_Cut p0 32 >>= fun x2 =>
      ( fold_words_1_L1 x2 0) >>= fun o4 => (
        some ([], ())) >>= fun q => some (o4.1 ++ q.1, q.2)
    else
      utf_Runes p0 >>= fun x6 =>
      ( fold_words_1_L2 x6 [] 0) >>= fun o8 => (
        b64_Encode o8.2 >>= fun x14 =>
        need ([61, 63, 85, 84, 70, 45, 56, 63, 66, 63].length + x14.length ≤ 9223372036854775807) >>= fun _ =>
        need (([61, 63, 85, 84, 70, 45, 56, 63, 66, 63] ++ x14).length + [63, 61].length ≤ 9223372036854775807) >>= fun _ =>
        ( some ([], ())) >>= fun q => some ((([61, 63, 85, 84, 70, 45, 56, 63, 66, 63] ++ x14) ++ [63, 61]) :: q.1, q.2)) >>= fun q => some (o8.1 ++ q.1, q.2)
set_option maxRecDepth 100000 in
set_option maxHeartbeats 4000000 in
theorem fold_words_1_ok : ∀ (p0 : (List UInt8)) (o : (List (List UInt8)) × Unit), fold_words_1 p0 = some o → ∀ gxs : List (List V), gxs = o.1.map e_fold_words_1 → IterOK Tryd.prog 54 [.ep [sV p0]] gxs := by
  intro p0 o h
  unfold fold_words_1 at h
  intro gxs hg
  have hx : gxs = [] ++ (o.1.map e_fold_words_1 ++ []) := by simp [hg]
  refine IterOK.ofB mixed tbOk fold_words_1_lv Tryd.func54 rfl (by kernel_rfl) (Nat.le_of_ble_eq_true rfl) rfl ?_
  refine st_test h (fun hb h => ?_) (fun hb h => ?_)
  · exact st_iend h hx (.inr rfl) rfl
  · refine st_call [sV p0] t_fold_Plain h (fun x1 hy => (fold_Plain_ok p0 x1 hy)) (fun x1 hy h => ?_)
    refine st_test h (fun hb h => ?_) (fun hb h => ?_)
    · refine st_call [sV p0, nV .u8 32] t_octet_Cut h (fun x2 hy => (octet_Cut_ok p0 32 x2 hy)) (fun x2 hy h => ?_)
      refine view (lenMap _ _) rfl ?_
      refine st_bindI h hx (fun o4 lgq3 gq3 ho hk hxa hjgq3 => ?_)
      refine Exists.intro (Qs _ _ gxs (JP1 _ _ o4.2 (.exit 0) (fold_words_1_L1_x0 x2 gxs gq3))) (And.intro (T_le (τ := fold_words_1_L1_st x2 0 gxs ([] : List (List V))) ?_ (TL.loop ((fold_words_1_L1_ok x2 0 o4 ho) _ _ _ _ hxa hjgq3))) (joinS (join1 ?_) ?_))
      · exact Le.tow 0 1 rfl (.cons rfl (.refl _) (.cons rfl (.refl _) (.cons rfl (.refl _) (.cons rfl (.refl _) (.nil))))) (.refl _) rfl
      · have h := hk
        have hx := hjgq3
        exact st_iend h hx (.inr rfl) rfl
      · exact fun s1 h1 h2 hs => st_istop (.inr rfl) hs
    · refine st_call [sV p0] t_utf_Runes h (fun x6 hy => (utf_Runes_ok p0 x6 hy)) (fun x6 hy h => ?_)
      refine view (lenMap _ _) rfl ?_
      refine st_bindI h hx (fun o8 lgq7 gq7 ho hk hxa hjgq7 => ?_)
      refine Exists.intro (Qs _ _ gxs (JP1 _ _ o8.2 (.exit 2) (fold_words_1_L2_x0 x6 gxs gq7))) (And.intro (T_le (τ := fold_words_1_L2_st x6 [] 0 gxs ([] : List (List V))) ?_ (TL.loop ((fold_words_1_L2_ok x6 [] 0 o8 ho) _ _ _ _ hxa hjgq7))) (joinS (join1 ?_) ?_))
      · exact Le.tow 0 1 rfl (.cons rfl (.refl _) (.cons rfl (.refl _) (.cons rfl (.refl _) (.cons rfl (.refl _) (.cons rfl (.refl _) (.nil)))))) (.refl _) rfl
      · have h := hk
        have hx := hjgq7
        refine st_call [sV o8.2] t_b64_Encode h (fun x14 hy => (b64_Encode_ok o8.2 x14 hy)) (fun x14 hy h => ?_)
        refine st_need h (fun h => ?_)
        refine st_need h (fun h => ?_)
        refine st_yld (c := e_fold_words_1) h hx (.refl _) (by exact rfl) (by exact rfl) (fun _ h hx => ?_) ?_
        · exact st_iend h hx (.inl rfl) rfl
        · exact st_istop (.inl rfl) rfl
      · exact fun s1 h1 h2 hs => st_istop (.inr rfl) hs
noncomputable def strings_Builder_String_3 (h0_0 : Bool) (h0_1 : (List Int)) (h0_2 : Int) : Option ((List UInt8)) :=
  b2s h0_1
set_option maxRecDepth 100000 in
set_option maxHeartbeats 4000000 in
theorem strings_Builder_String_3_ok : ∀ (h0_0 : Bool) (h0_1 : (List Int)) (h0_2 : Int) (o : (List UInt8)), strings_Builder_String_3 h0_0 h0_1 h0_2 = some o → CallOK Tryd.prog 29 [.ptr 0 0] ⟨[[.sp Tryd.prog 44 h0_0 0 0, .own 0 5 1 (h0_1.map (cNum .u8)), .p (iV h0_2)]], [(h0_1.map (cNum .u8)).length]⟩ (t_strings_Builder_String_3 o) ⟨[[.sp Tryd.prog 44 h0_0 0 0, .p (.sl false (h0_1.map (cNum .u8))), .p (iV h0_2)]], [((h0_1.map (cNum .u8)).length + 1)]⟩ := by
  intro h0_0 h0_1 h0_2 o h
  unfold strings_Builder_String_3 at h
  exact builderString_ok [[.sp Tryd.prog 44 h0_0 0 0, .own 0 5 1 (h0_1.map (cNum .u8)), .p (iV h0_2)]] [(h0_1.map (cNum .u8)).length] 0 0 [.sp Tryd.prog 44 h0_0 0 0, .own 0 5 1 (h0_1.map (cNum .u8)), .p (iV h0_2)] (h0_1.map (cNum .u8)) rfl rfl rfl (b2s_cells h)
noncomputable def strings_Builder_copyCheck (h0_0 : Bool) (h0_2 : Int) : Option (Bool) :=
  some true
set_option maxRecDepth 100000 in
set_option maxHeartbeats 4000000 in
theorem strings_Builder_copyCheck_ok : ∀ (h0_0 : Bool) (h0_2 : Int) (o : Bool), strings_Builder_copyCheck h0_0 h0_2 = some o → CallOK Tryd.prog 53 [.ptr 0 0] ⟨[[.sp Tryd.prog 44 h0_0 0 0, .p (.sl true []), .p (iV h0_2)]], []⟩ (t_strings_Builder_copyCheck o) ⟨[[.sp Tryd.prog 44 o 0 0, .p (.sl true []), .p (iV h0_2)]], []⟩ := by
  intro h0_0 h0_2 o h
  unfold strings_Builder_copyCheck at h
  cases h
  exact copyCheck_ok [[.sp Tryd.prog 44 h0_0 0 0, .p (.sl true []), .p (iV h0_2)]] _ 0 [.sp Tryd.prog 44 h0_0 0 0, .p (.sl true []), .p (iV h0_2)] rfl rfl
noncomputable def strings_Builder_WriteString (p1 : (List UInt8)) (h0_0 : Bool) (h0_2 : Int) : Option (Int × Unit × Bool × (List Int)) :=
  strings_Builder_copyCheck h0_0 h0_2 >>= fun x1 =>
  appL 1 [] (s2b p1) >>= fun x2 =>
  some ((p1.length : Int), (), x1, x2)
set_option maxRecDepth 100000 in
set_option maxHeartbeats 4000000 in
theorem strings_Builder_WriteString_ok : ∀ (p1 : (List UInt8)) (h0_0 : Bool) (h0_2 : Int) (o : Int × Unit × Bool × (List Int)), strings_Builder_WriteString p1 h0_0 h0_2 = some o → CallOK Tryd.prog 26 [.ptr 0 0, .p (sV p1)] ⟨[[.sp Tryd.prog 44 h0_0 0 0, .p (.sl true []), .p (iV h0_2)]], []⟩ (t_strings_Builder_WriteString o) ⟨[[.sp Tryd.prog 44 o.2.2.1 0 0, .own 0 5 1 (o.2.2.2.map (cNum .u8)), .p (iV h0_2)]], [(o.2.2.2.map (cNum .u8)).length]⟩ := by
  intro p1 h0_0 h0_2 o h
  unfold strings_Builder_WriteString at h
  refine CallOK.ofB mixed tbOk strings_Builder_WriteString_lv Tryd.func26 rfl (by kernel_rfl) (Nat.le_of_ble_eq_true rfl) rfl rfl rfl ?_
  refine st_callc _ _ h (fun x1 hy => ((strings_Builder_copyCheck_ok h0_0 h0_2 x1 hy).fr [0] [] rfl rfl rfl)) (fun x1 hy h => ?_)
  refine st_appsf (a := ([] : List Int)) (b := p1) h (.inl rfl) (fun x2 hi h => ?_)
  refine vrfl ?_
  refine Exists.intro _ (And.intro (Le.refl _ _ _) ?_)
  exact st_retc (t := t_strings_Builder_WriteString) (ss := fun o => ⟨[[.sp Tryd.prog 44 o.2.2.1 0 0, .own 0 5 1 (o.2.2.2.map (cNum .u8)), .p (iV h0_2)]], [(o.2.2.2.map (cNum .u8)).length]⟩) h ⟨[0], rfl, .refl _, .refl _, rfl⟩
noncomputable def fold_Write (p0 : (List UInt8)) (p1 : (List UInt8)) : Option ((List UInt8) × Int) :=
  fold_name p0 >>= fun x1 =>
  if (!x1) then
    some ([], 1)
  else
    need (p0.length + [58].length ≤ 9223372036854775807) >>= fun _ =>
    strings_Builder_WriteString (p0 ++ [58]) false (wr ((p0.length : Int) + 1)) >>= fun x2 =>
    fold_words p1 >>= fun x3 =>
    fold_words_1 x3 >>= fun y7 =>
    (fold_Write_L1 x3 y7.1 x2.2.2.1 x2.2.2.2 (wr ((p0.length : Int) + 1))) >>= fun o8 =>
    strings_Builder_WriteString_3 [13, 10] o8.1 o8.2.1 o8.2.2 >>= fun x10 =>
    strings_Builder_String_3 x10.2.2.1 x10.2.2.2 o8.2.2 >>= fun x11 =>
    some (x11, 0)
set_option maxRecDepth 100000 in
set_option maxHeartbeats 4000000 in
theorem fold_Write_ok : ∀ (p0 : (List UInt8)) (p1 : (List UInt8)) (o : (List UInt8) × Int), fold_Write p0 p1 = some o → PCall Tryd.prog 10 [sV p0, sV p1] (t_fold_Write o) := by
  intro p0 p1 o h
  unfold fold_Write at h
  refine PCall.ofB mixed tbOk fold_Write_lv Tryd.func10 rfl (by kernel_rfl) (Nat.le_of_ble_eq_true rfl) ?_
  refine st_call [sV p0] t_fold_name h (fun x1 hy => (fold_name_ok p0 x1 hy)) (fun x1 hy h => ?_)
  refine st_test h (fun hb h => ?_) (fun hb h => ?_)
  · refine st_ret (t := t_fold_Write) h ?_
    exact .refl _
  · refine vrfl ?_
    refine st_need h (fun h => ?_)
    refine st_callc _ _ h (fun x2 hy => ((strings_Builder_WriteString_ok (p0 ++ [58]) false (wr ((p0.length : Int) + 1)) x2 hy).fr [0] [] rfl rfl rfl)) (fun x2 hy h => ?_)
    refine st_call [sV p1] t_fold_words h (fun x3 hy => (fold_words_ok p1 x3 hy)) (fun x3 hy h => ?_)
    refine st_bind h (fun y7 hy7 h => ?_)
    refine st_bind h (fun o8 ho hk => ?_)
    refine Exists.intro (JP1 _ _ o8 .normal (fold_Write_L1_x0 x3)) (And.intro (T_le (τ := fold_Write_L1_st x3 x2.2.2.1 x2.2.2.2 (wr ((p0.length : Int) + 1))) ?_ (T_range (g := 54) (cap := [.ep [sV x3]]) rfl ((fold_words_1_ok x3 y7 hy7) _ rfl) (mapSize fun _ => rfl) rfl (Nat.le_of_ble_eq_true rfl) (Nat.le_of_ble_eq_true rfl) (fold_Write_L1_ok x3 y7.1 x2.2.2.1 x2.2.2.2 (wr ((p0.length : Int) + 1)) o8 ho))) (join1 ?_))
    · exact Le.tow 1 1 rfl (.cons rfl (.refl _) (.cons rfl (.refl _) (.nil))) (.refl _) rfl
    have h := hk
    refine st_callc _ _ h (fun x10 hy => ((strings_Builder_WriteString_3_ok [13, 10] o8.1 o8.2.1 o8.2.2 x10 hy).fr [0] [0] rfl rfl rfl)) (fun x10 hy h => ?_)
    refine st_callc _ _ h (fun x11 hy => ((strings_Builder_String_3_ok x10.2.2.1 x10.2.2.2 o8.2.2 x11 hy).fr [0] [0] rfl rfl rfl)) (fun x11 hy h => ?_)
    refine st_ret (t := t_fold_Write) h ?_
    exact .refl _
noncomputable def nunciolaw09_awake : Option (Bool) :=
  fold_Write [83, 117, 98, 106, 101, 99, 116] [97, 32, 98] >>= fun x1 =>
  fold_Write [83, 117, 98, 106, 101, 99, 116] [10] >>= fun x2 =>
  fold_Read x2.1 >>= fun x3 =>
  ( if (x1.1 == [83, 117, 98, 106, 101, 99, 116, 58, 32, 97, 32, 98, 13, 10]) then
      if (x1.2 == 0) then
        if (x2.1 == [83, 117, 98, 106, 101, 99, 116, 58, 32, 61, 63, 85, 84, 70, 45, 56, 63, 66, 63, 67, 103, 61, 61, 63, 61, 13, 10]) then
          if (x2.2 == 0) then
            if (x3.1 == [83, 117, 98, 106, 101, 99, 116]) then
              if (x3.2.1 == [10]) then
                some (x3.2.2 == 0)
              else
                some false
            else
              some false
          else
            some false
        else
          some false
      else
        some false
    else
      some false : Option (Bool)) >>= fun o4 =>
  some o4
set_option maxRecDepth 100000 in
set_option maxHeartbeats 4000000 in
theorem nunciolaw09_awake_ok : ∀ (o : Bool), nunciolaw09_awake  = some o → PCall Tryd.prog 14 [] (t_nunciolaw09_awake o) := by
  intro o h
  unfold nunciolaw09_awake at h
  refine PCall.ofB mixed tbOk nunciolaw09_awake_lv Tryd.func14 rfl (by kernel_rfl) (Nat.le_of_ble_eq_true rfl) ?_
  refine st_call [sV [83, 117, 98, 106, 101, 99, 116], sV [97, 32, 98]] t_fold_Write h (fun x1 hy => (fold_Write_ok [83, 117, 98, 106, 101, 99, 116] [97, 32, 98] x1 hy)) (fun x1 hy h => ?_)
  refine st_call [sV [83, 117, 98, 106, 101, 99, 116], sV [10]] t_fold_Write h (fun x2 hy => (fold_Write_ok [83, 117, 98, 106, 101, 99, 116] [10] x2 hy)) (fun x2 hy h => ?_)
  refine st_call [sV x2.1] t_fold_Read h (fun x3 hy => (fold_Read_ok x2.1 x3 hy)) (fun x3 hy h => ?_)
  refine st_bind h (fun o4 ho hk => ?_)
  refine Exists.intro (JP1 _ _ o4 .normal (nunciolaw09_awake_J0_0 )) (And.intro ?_ (join1 ?_))
  · have h := ho
    refine st_test h (fun hb h => ?_) (fun hb h => ?_)
    · refine st_test h (fun hb h => ?_) (fun hb h => ?_)
      · refine st_test h (fun hb h => ?_) (fun hb h => ?_)
        · refine st_test h (fun hb h => ?_) (fun hb h => ?_)
          · refine st_test h (fun hb h => ?_) (fun hb h => ?_)
            · refine st_test h (fun hb h => ?_) (fun hb h => ?_)
              · refine JP1.a h ?_
                exact Le.tow 0 0 rfl (.cons rfl (.refl _) (.nil)) (.refl _) rfl
              · refine JP1.a h ?_
                exact Le.tow 0 0 rfl (.cons rfl (.refl _) (.nil)) (.refl _) rfl
            · refine bF ?_
              refine JP1.a h ?_
              exact Le.tow 0 0 rfl (.cons rfl (.refl _) (.nil)) (.refl _) rfl
          · refine bF ?_
            refine bF ?_
            refine JP1.a h ?_
            exact Le.tow 0 0 rfl (.cons rfl (.refl _) (.nil)) (.refl _) rfl
        · refine bF ?_
          refine bF ?_
          refine bF ?_
          refine JP1.a h ?_
          exact Le.tow 0 0 rfl (.cons rfl (.refl _) (.nil)) (.refl _) rfl
      · refine bF ?_
        refine bF ?_
        refine bF ?_
        refine bF ?_
        refine JP1.a h ?_
        exact Le.tow 0 0 rfl (.cons rfl (.refl _) (.nil)) (.refl _) rfl
    · refine bF ?_
      refine bF ?_
      refine bF ?_
      refine bF ?_
      refine bF ?_
      refine JP1.a h ?_
      exact Le.tow 0 0 rfl (.cons rfl (.refl _) (.nil)) (.refl _) rfl
  · have h := hk
    refine st_ret (t := t_nunciolaw09_awake) h ?_
    exact .refl _
noncomputable def nunciolaw09_few (p0 : (List UInt8)) : Option ((List UInt8)) :=
  cutL p0 0 (if 400 < (p0.length : Int) then 400 else (p0.length : Int)) >>= fun x1 =>
  some x1
set_option maxRecDepth 100000 in
set_option maxHeartbeats 4000000 in
theorem nunciolaw09_few_ok : ∀ (p0 : (List UInt8)) (o : (List UInt8)), nunciolaw09_few p0 = some o → PCall Tryd.prog 9 [sV p0] (t_nunciolaw09_few o) := by
  intro p0 o h
  unfold nunciolaw09_few at h
  refine PCall.ofB mixed tbOk nunciolaw09_few_lv Tryd.func9 rfl (by kernel_rfl) (Nat.le_of_ble_eq_true rfl) ?_
  refine vrfl ?_
  refine st_cuts none (some (if 400 < (p0.length : Int) then 400 else (p0.length : Int))) h (fun x1 hi h => ?_)
  refine st_ret (t := t_nunciolaw09_few) h ?_
  exact .refl _
noncomputable def nunciolaw09_FoldBack (p0 : (List UInt8)) (p1 : (List UInt8)) : Option (Bool) :=
  nunciolaw09_few p0 >>= fun x1 =>
  nunciolaw09_few p1 >>= fun x2 =>
  fold_Write x1 x2 >>= fun x3 =>
  if (x3.2 != 0) then
    ( if (x3.1 == []) then
        R09_Name x1 >>= fun x5 =>
        if (!x5) then
          nunciolaw09_awake >>= fun x6 =>
          some x6
        else
          some false
      else
        some false : Option (Bool)) >>= fun o4 =>
    some o4
  else
    fold_Read x3.1 >>= fun x7 =>
    ( R09_Plain x2 >>= fun x9 =>
      if (!x9) then
        R09_Whole x2 >>= fun x10 =>
        some x10
      else
        some x2 : Option ((List UInt8))) >>= fun o8 =>
    ( if (x7.2.2 == 0) then
        if (x7.1 == x1) then
          if (x7.2.1 == o8) then
            nunciolaw09_awake >>= fun x12 =>
            some x12
          else
            some false
        else
          some false
      else
        some false : Option (Bool)) >>= fun o11 =>
    some o11
set_option maxRecDepth 100000 in
set_option maxHeartbeats 4000000 in
theorem nunciolaw09_FoldBack_ok : ∀ (p0 : (List UInt8)) (p1 : (List UInt8)) (o : Bool), nunciolaw09_FoldBack p0 p1 = some o → PCall Tryd.prog 5 [sV p0, sV p1] (t_nunciolaw09_FoldBack o) := by
  intro p0 p1 o h
  unfold nunciolaw09_FoldBack at h
  refine PCall.ofB mixed tbOk nunciolaw09_FoldBack_lv Tryd.func5 rfl (by kernel_rfl) (Nat.le_of_ble_eq_true rfl) ?_
  refine st_call [sV p0] t_nunciolaw09_few h (fun x1 hy => (nunciolaw09_few_ok p0 x1 hy)) (fun x1 hy h => ?_)
  refine st_call [sV p1] t_nunciolaw09_few h (fun x2 hy => (nunciolaw09_few_ok p1 x2 hy)) (fun x2 hy h => ?_)
  refine st_call [sV x1, sV x2] t_fold_Write h (fun x3 hy => (fold_Write_ok x1 x2 x3 hy)) (fun x3 hy h => ?_)
  refine st_test h (fun hb h => ?_) (fun hb h => ?_)
  · refine st_bind h (fun o4 ho hk => ?_)
    refine Exists.intro (JP1 _ _ o4 .normal (nunciolaw09_FoldBack_J0_0 )) (And.intro ?_ (join1 ?_))
    · have h := ho
      refine st_test h (fun hb h => ?_) (fun hb h => ?_)
      · refine st_call [sV x1] t_R09_Name h (fun x5 hy => (R09_Name_ok x1 x5 hy)) (fun x5 hy h => ?_)
        refine st_test h (fun hb h => ?_) (fun hb h => ?_)
        · refine st_call [] t_nunciolaw09_awake h (fun x6 hy => (nunciolaw09_awake_ok x6 hy)) (fun x6 hy h => ?_)
          refine JP1.a h ?_
          exact Le.tow 0 0 rfl (.cons rfl (.refl _) (.nil)) (.refl _) rfl
        · refine JP1.a h ?_
          exact Le.tow 0 0 rfl (.cons rfl (.refl _) (.nil)) (.refl _) rfl
      · refine bF ?_
        refine JP1.a h ?_
        exact Le.tow 0 0 rfl (.cons rfl (.refl _) (.nil)) (.refl _) rfl
    · have h := hk
      refine st_ret (t := t_nunciolaw09_FoldBack) h ?_
      exact .refl _
  · refine st_call [sV x3.1] t_fold_Read h (fun x7 hy => (fold_Read_ok x3.1 x7 hy)) (fun x7 hy h => ?_)
    refine st_bind h (fun o8 ho hk => ?_)
    refine Exists.intro (JP1 _ _ o8 .normal (nunciolaw09_FoldBack_J1_0 x1 x7)) (And.intro ?_ (join1 ?_))
    · have h := ho
      refine st_call [sV x2] t_R09_Plain h (fun x9 hy => (R09_Plain_ok x2 x9 hy)) (fun x9 hy h => ?_)
      refine st_test h (fun hb h => ?_) (fun hb h => ?_)
      · refine st_call [sV x2] t_R09_Whole h (fun x10 hy => (R09_Whole_ok x2 x10 hy)) (fun x10 hy h => ?_)
        refine JP1.a h ?_
        exact Le.tow 0 0 rfl (.cons rfl (.refl _) (.cons rfl (.refl _) (.cons rfl (.refl _) (.cons rfl (.refl _) (.cons rfl (.refl _) (.nil)))))) (.refl _) rfl
      · refine JP1.a h ?_
        exact Le.tow 0 0 rfl (.cons rfl (.refl _) (.cons rfl (.refl _) (.cons rfl (.refl _) (.cons rfl (.refl _) (.cons rfl (.refl _) (.nil)))))) (.refl _) rfl
    · have h := hk
      refine st_bind h (fun o11 ho hk => ?_)
      refine Exists.intro (JP1 _ _ o11 .normal (nunciolaw09_FoldBack_J2_0 )) (And.intro ?_ (join1 ?_))
      · have h := ho
        refine st_test h (fun hb h => ?_) (fun hb h => ?_)
        · refine st_test h (fun hb h => ?_) (fun hb h => ?_)
          · refine st_test h (fun hb h => ?_) (fun hb h => ?_)
            · refine st_call [] t_nunciolaw09_awake h (fun x12 hy => (nunciolaw09_awake_ok x12 hy)) (fun x12 hy h => ?_)
              refine JP1.a h ?_
              exact Le.tow 0 0 rfl (.cons rfl (.refl _) (.nil)) (.refl _) rfl
            · refine JP1.a h ?_
              exact Le.tow 0 0 rfl (.cons rfl (.refl _) (.nil)) (.refl _) rfl
          · refine bF ?_
            refine JP1.a h ?_
            exact Le.tow 0 0 rfl (.cons rfl (.refl _) (.nil)) (.refl _) rfl
        · refine bF ?_
          refine bF ?_
          refine JP1.a h ?_
          exact Le.tow 0 0 rfl (.cons rfl (.refl _) (.nil)) (.refl _) rfl
      · have h := hk
        refine st_ret (t := t_nunciolaw09_FoldBack) h ?_
        exact .refl _
end Go.Proofs.YtagokkpnfceidaaDoor
end

section
namespace Go.Proofs.YtagokkpnfceidaaDoor
open Go.RowKit

def cutS (b : UInt8) : List UInt8 → List (List UInt8)
  | [] => [[]]
  | a :: t => if a == b then [] :: cutS b t else match cutS b t with
    | x :: r => (a :: x) :: r
    | [] => [[a]]
theorem cutS_ne (b : UInt8) : ∀ l, cutS b l ≠ []
  | [] => by simp [cutS]
  | a :: t => by
    rw [cutS]
    split
    · simp
    · split <;> simp
theorem cutS_free (b : UInt8) : ∀ p : List UInt8, b ∉ p → cutS b p = [p]
  | [], _ => rfl
  | a :: t, h => by
    simp only [List.mem_cons, not_or] at h
    have ha : ¬ (a == b) = true := by simpa using fun e : a = b => h.1 e.symm
    rw [cutS, if_neg ha, cutS_free b t h.2]
theorem cutS_at (b : UInt8) (t : List UInt8) : ∀ p : List UInt8, b ∉ p → cutS b (p ++ b :: t) = p :: cutS b t
  | [], _ => by simp [cutS]
  | a :: p, h => by
    simp only [List.mem_cons, not_or] at h
    have ha : ¬ (a == b) = true := by simpa using fun e : a = b => h.1 e.symm
    rw [List.cons_append, cutS, if_neg ha, cutS_at b t p h.2]
theorem cutS_len (b : UInt8) (l : List UInt8) : (cutS b l).length ≤ l.length + 1 ∧ ∀ x ∈ cutS b l, x.length ≤ l.length := by
  induction l with
  | nil => simp [cutS]
  | cons a t ih =>
    obtain ⟨h1, h2⟩ := ih
    rw [cutS]
    split
    · refine ⟨by simp; omega, fun x hx => ?_⟩
      rcases List.mem_cons.1 hx with rfl | hx
      · simp
      · have := h2 x hx; rw [List.length_cons]; omega
    · split
      · rename_i x r hc
        rw [hc] at h1 h2
        refine ⟨by simp at h1 ⊢; omega, fun y hy => ?_⟩
        rcases List.mem_cons.1 hy with rfl | hy
        · have := h2 x (by simp); simp; omega
        · have := h2 y (by simp [hy]); rw [List.length_cons]; omega
      · exact ⟨by simp, fun y hy => by simp at hy; subst hy; simp⟩
theorem index_one (b : UInt8) : ∀ l : List UInt8, (Lib.index l [b] = -1 ∧ b ∉ l) ∨ ∃ p t, l = p ++ b :: t ∧ b ∉ p ∧ Lib.index l [b] = (p.length : Int)
  | [] => .inl ⟨rfl, by simp⟩
  | a :: l => by
    by_cases h : (b == a) = true
    · have e : b = a := by simpa using h
      subst e
      exact .inr ⟨[], l, rfl, by simp, by unfold Lib.index; rw [if_pos (by simp [List.isPrefixOf])]; rfl⟩
    · have hp : [b].isPrefixOf (a :: l) = false := by simp [List.isPrefixOf]; simpa using h
      have hne : b ≠ a := by simpa using h
      rcases index_one b l with ⟨h1, h2⟩ | ⟨p, t, h1, h2, h3⟩
      · refine .inl ⟨by unfold Lib.index; rw [hp, h1]; rfl, by simp [h2, hne]⟩
      · refine .inr ⟨a :: p, t, by rw [h1]; rfl, by simp [h2, hne], ?_⟩
        unfold Lib.index
        rw [hp, h3]
        have : ((p.length : Int) == -1) = false := by rw [beq_eq_false_iff_ne]; omega
        simp [this]
def gl (p : List UInt8) : List (List UInt8) → List (List UInt8)
  | x :: r => (p ++ x) :: r
  | [] => [p]
theorem beqB (x : UInt8) (b : UInt8) : ((x.toNat : Int) == (b.toNat : Int)) = (x == b) := by
  rw [Bool.eq_iff_iff, beq_iff_eq, beq_iff_eq]
  constructor
  · intro h; exact UInt8.toNat_inj.1 (by omega)
  · intro h; rw [h]
theorem rCutL (b : UInt8) (l : List UInt8) (hl : l.length ≤ 1000000) : ∀ k, k ≤ l.length → ∀ (f : Nat) (acc : List (List UInt8)), f ≤ k → acc.length ≤ k → ∃ (A : List (List UInt8)) (F : Nat), R01_Cut_L1 l (b.toNat : Int) acc (f : Int) (k : Int) = some (A, (F : Int)) ∧ F ≤ l.length ∧ A.length ≤ l.length ∧
    A ++ [l.drop F] = acc ++ gl ((l.drop f).take (k - f)) (cutS b (l.drop k)) := by
  refine upto ?_ fun k hk ih => ?_
  · intro f acc hf ha
    refine ⟨acc, f, by rw [R01_Cut_L1]; simp, hf, ha, ?_⟩
    rw [List.drop_length, cutS, gl, List.append_nil, List.take_of_length_le (by rw [List.length_drop]; omega)]
  · intro f acc hf ha
    rw [R01_Cut_L1, ltI, decide_eq_true hk, wr_succ (by omega)]
    simp only [if_true, idx_nat, getE hk, bind_some', beqB]
    have hs : (l.drop f).take (k + 1 - f) = (l.drop f).take (k - f) ++ [l[k]] := by
      rw [show k + 1 - f = (k - f) + 1 by omega, List.take_succ_eq_append_getElem (by rw [List.length_drop]; omega), List.getElem_drop]
      congr 3
      omega
    by_cases h : (l[k] == b) = true
    · rw [if_pos h, cutL_ok (by omega) (by omega) (by omega), bind_some', appL_ok (by simp; omega) (by simp; omega), bind_some']
      obtain ⟨A, F, h1, h2, h3, h4⟩ := ih (k + 1) (acc ++ [(l.take k).drop f]) (Nat.le_refl _) (by simp; omega)
      refine ⟨A, F, h1, h2, h3, ?_⟩
      rw [h4, dropE hk, cutS, if_pos h, gl, List.append_nil, List.append_assoc, Nat.sub_self, List.take_zero]
      have e1 : (l.take k).drop f = (l.drop f).take (k - f) := by rw [List.drop_take]
      rw [e1]
      cases hc : cutS b (l.drop (k + 1)) with
      | nil => exact absurd hc (cutS_ne _ _)
      | cons x r => rfl
    · rw [if_neg h]
      obtain ⟨A, F, h1, h2, h3, h4⟩ := ih f acc (by omega) (by omega)
      refine ⟨A, F, h1, h2, h3, ?_⟩
      rw [h4, hs, dropE hk, cutS, if_neg h]
      cases hc : cutS b (l.drop (k + 1)) with
      | nil => exact absurd hc (cutS_ne _ _)
      | cons x r => simp [gl]
theorem rCut (b : UInt8) (l : List UInt8) (hl : l.length ≤ 1000000) : R01_Cut l (b.toNat : Int) = some (cutS b l) := by
  obtain ⟨A, F, h1, h2, h3, h4⟩ := rCutL b l hl 0 (Nat.zero_le _) 0 [] (Nat.le_refl _) (Nat.le_refl _)
  rw [R01_Cut]
  show (R01_Cut_L1 l (b.toNat : Int) [] ((0 : Nat) : Int) ((0 : Nat) : Int) >>= _) = _
  rw [h1, bind_some', cutL_ok (by omega) (by omega) (by omega), bind_some', appL_ok (by simp; omega) (by simp; omega), bind_some']
  have e : (l.take (l.length : Int).toNat).drop ((F : Int)).toNat = l.drop F := by simp
  rw [e, h4, List.drop_zero]
  cases hc : cutS b l with
  | nil => exact absurd hc (cutS_ne _ _)
  | cons x r => rfl
end Go.Proofs.YtagokkpnfceidaaDoor
end

section
namespace Go.Proofs.YtagokkpnfceidaaDoor
open Go.RowKit

def contB (c : UInt8) : Bool := decide (128 ≤ c.toNat) && decide (c.toNat < 192)
def runeB (n : Nat) : Bool := decide (n ≤ 1114111) && !(decide (55296 ≤ n) && decide (n ≤ 57343))
/-- The rune at the head, and how many bytes it has. -/
def nextC (c : UInt8) (r : List UInt8) : Nat × Nat :=
    if c.toNat < 128 then (c.toNat, 1)
    else if 192 ≤ c.toNat ∧ c.toNat < 224 then
      match r with
      | c1 :: _ => if contB c1 = true ∧ 128 ≤ (c.toNat - 192) * 64 + (c1.toNat - 128) then ((c.toNat - 192) * 64 + (c1.toNat - 128), 2) else (65533, 1)
      | _ => (65533, 1)
    else if 224 ≤ c.toNat ∧ c.toNat < 240 then
      match r with
      | c1 :: c2 :: _ => if contB c1 = true ∧ contB c2 = true ∧ 2048 ≤ ((c.toNat - 224) * 64 + (c1.toNat - 128)) * 64 + (c2.toNat - 128) ∧ runeB (((c.toNat - 224) * 64 + (c1.toNat - 128)) * 64 + (c2.toNat - 128)) = true then (((c.toNat - 224) * 64 + (c1.toNat - 128)) * 64 + (c2.toNat - 128), 3) else (65533, 1)
      | _ => (65533, 1)
    else if 240 ≤ c.toNat ∧ c.toNat < 248 then
      match r with
      | c1 :: c2 :: c3 :: _ => if contB c1 = true ∧ contB c2 = true ∧ contB c3 = true ∧ 65536 ≤ (((c.toNat - 240) * 64 + (c1.toNat - 128)) * 64 + (c2.toNat - 128)) * 64 + (c3.toNat - 128) ∧ runeB ((((c.toNat - 240) * 64 + (c1.toNat - 128)) * 64 + (c2.toNat - 128)) * 64 + (c3.toNat - 128)) = true then ((((c.toNat - 240) * 64 + (c1.toNat - 128)) * 64 + (c2.toNat - 128)) * 64 + (c3.toNat - 128), 4) else (65533, 1)
      | _ => (65533, 1)
    else (65533, 1)
def nextP : List UInt8 → Nat × Nat
  | [] => (0, 0)
  | c :: r => nextC c r
theorem i32_in {n : Int} (h1 : -2147483648 ≤ n) (h2 : n ≤ 2147483647) : IntKind.i32.wrap n = n := by
  simp [IntKind.wrap, IntKind.bits, IntKind.signed]
  omega
theorem u8_in {n : Int} (h1 : 0 ≤ n) (h2 : n ≤ 255) : IntKind.u8.wrap n = n := by
  simp [IntKind.wrap, IntKind.bits, IntKind.signed]
  omega
theorem and63 : ∀ c : Fin 256, bits .and .u8 ((c.1 : Nat) : Int) 63 = ((c.1 % 64 : Nat) : Int) := by decide +kernel
theorem and192 : ∀ c : Fin 256, (bits .and .u8 ((c.1 : Nat) : Int) 192 != 128) = !(decide (128 ≤ c.1) && decide (c.1 < 192)) := by decide +kernel
theorem and31 : ∀ c : Fin 256, bits .and .u8 ((c.1 : Nat) : Int) 31 = ((c.1 % 32 : Nat) : Int) := by decide +kernel
theorem and15 : ∀ c : Fin 256, bits .and .u8 ((c.1 : Nat) : Int) 15 = ((c.1 % 16 : Nat) : Int) := by decide +kernel
theorem and7 : ∀ c : Fin 256, bits .and .u8 ((c.1 : Nat) : Int) 7 = ((c.1 % 8 : Nat) : Int) := by decide +kernel
theorem or64 (a b : Nat) (ha : a < 1000000) (hb : b < 64) : bits .or .i32 (IntKind.i32.wrap ((a : Int) * 2 ^ (min (6 : Int).toNat (IntKind.i32.bits)))) (IntKind.i32.wrap (b : Int)) = ((a * 64 + b : Nat) : Int) := by
  have e1 : IntKind.i32.wrap ((a : Int) * 2 ^ (min (6 : Int).toNat (IntKind.i32.bits))) = ((a * 64 : Nat) : Int) := by
    have : (min (6 : Int).toNat (IntKind.i32.bits)) = 6 := rfl
    rw [this, i32_in (by omega) (by omega)]; omega
  rw [e1, i32_in (by omega) (by omega)]
  have e2 : (2 : Nat) ^ 6 * a + b = 2 ^ 6 * a ||| b := Nat.two_pow_add_eq_or_of_lt (by omega) a
  have e3 : a * 64 ||| b = a * 64 + b := by
    have : (2 : Nat) ^ 6 * a = a * 64 := by omega
    rw [this] at e2; omega
  show IntKind.i32.wrap ((BitVec.ofInt 32 ((a * 64 : Nat) : Int) ||| BitVec.ofInt 32 (b : Int)).toNat : Int) = _
  rw [BitVec.toNat_or, BitVec.ofInt_natCast, BitVec.ofInt_natCast, BitVec.toNat_ofNat, BitVec.toNat_ofNat, Nat.mod_eq_of_lt (by omega), Nat.mod_eq_of_lt (by omega), e3, i32_in (by omega) (by omega)]
theorem b63 (c : UInt8) : bits .and .u8 (c.toNat : Int) 63 = ((c.toNat % 64 : Nat) : Int) := and63 ⟨c.toNat, c.toNat_lt⟩
theorem b192 (c : UInt8) : (bits .and .u8 (c.toNat : Int) 192 != 128) = !contB c := and192 ⟨c.toNat, c.toNat_lt⟩
theorem b31 (c : UInt8) : bits .and .u8 (c.toNat : Int) 31 = ((c.toNat % 32 : Nat) : Int) := and31 ⟨c.toNat, c.toNat_lt⟩
theorem b15 (c : UInt8) : bits .and .u8 (c.toNat : Int) 15 = ((c.toNat % 16 : Nat) : Int) := and15 ⟨c.toNat, c.toNat_lt⟩
theorem b7 (c : UInt8) : bits .and .u8 (c.toNat : Int) 7 = ((c.toNat % 8 : Nat) : Int) := and7 ⟨c.toNat, c.toNat_lt⟩
theorem cont_mod {c : UInt8} (h : contB c = true) : c.toNat % 64 = c.toNat - 128 := by
  unfold contB at h
  simp at h
  omega
/-- What follows: so many bytes. -/
def tailP : Nat → List UInt8 → Nat → Option Nat
  | 0, _, v => some v
  | _ + 1, [], _ => none
  | m + 1, c :: r, v => if contB c = true then tailP m r (v * 64 + (c.toNat - 128)) else none
set_option maxRecDepth 20000 in
theorem tTailL (l : List UInt8) (m : Nat) (hm : m ≤ l.length) (hm3 : m ≤ 3) : ∀ (d k v : Nat), k + d = m → ((k = 0 → v < 64) ∧ (k ≤ 1 → v < 4096) ∧ (k ≤ 2 → v < 262144)) →
    utf_tail_L1 l m v k = some (match tailP d (l.drop k) v with | some n => .inl (n : Int) | none => .inr ()) := by
  intro d
  induction d with
  | zero =>
    intro k v hk _
    rw [utf_tail_L1, ltI, decide_eq_false (by omega : ¬ k < m)]
    rfl
  | succ d ih =>
    intro k v hk hv
    have hkl : k < l.length := by omega
    have : decide ((k : Int) < (m : Int)) = true := decide_eq_true (by omega)
    rw [utf_tail_L1]
    simp only [this, if_true, idx_nat, getE hkl, bind_some', b192, b63]
    rw [or64 v _ (by omega) (Nat.mod_lt _ (by omega)), wr_succ (by omega), dropE hkl]
    unfold tailP
    cases hc : contB l[k] with
    | false => rfl
    | true =>
      rw [cont_mod hc]
      have hlt : l[k].toNat - 128 < 64 := by unfold contB at hc; simp at hc; omega
      have hv2 : (k + 1 = 0 → v * 64 + (l[k].toNat - 128) < 64) ∧ (k + 1 ≤ 1 → v * 64 + (l[k].toNat - 128) < 4096) ∧ (k + 1 ≤ 2 → v * 64 + (l[k].toNat - 128) < 262144) := by omega
      simp only [Bool.not_true, Bool.false_eq_true, if_false, if_true]
      exact ih (k + 1) _ (by omega) hv2
theorem tTail (l : List UInt8) (m v : Nat) (hm3 : m ≤ 3) (hv : v < 64) : utf_tail l v m = some (match (if l.length < m then none else tailP m l v) with | some n => ((n : Int), true) | none => (0, false)) := by
  rw [utf_tail, ltI]
  by_cases h : l.length < m
  · rw [decide_eq_true h, if_pos h]; rfl
  · rw [decide_eq_false h, if_neg h]
    have := tTailL l m (by omega) hm3 m 0 v (by omega) (by omega)
    rw [List.drop_zero] at this
    rw [show (0 : Int) = ((0 : Nat) : Int) from rfl, this]
    cases tailP m l v <;> rfl
theorem tIsR (n : Nat) : utf_is (n : Int) = some (runeB n) := by
  have a : decide ((n : Int) ≥ 0) = true := decide_eq_true (by omega)
  have b : decide ((n : Int) ≤ 1114111) = decide (n ≤ 1114111) := by
    by_cases h : n ≤ 1114111
    · rw [decide_eq_true h, decide_eq_true (by omega)]
    · rw [decide_eq_false h, decide_eq_false (by omega)]
  rw [utf_is, a, b, runeB]
  by_cases h1 : n < 55296
  · rw [decide_eq_true (show (n : Int) < 55296 by omega), decide_eq_true (show n ≤ 1114111 by omega), decide_eq_false (show ¬ 55296 ≤ n by omega)]; rfl
  · rw [decide_eq_false (show ¬ (n : Int) < 55296 by omega), decide_eq_true (show 55296 ≤ n by omega)]
    by_cases h2 : n ≤ 57343
    · rw [decide_eq_false (show ¬ (n : Int) > 57343 by omega), decide_eq_true h2, decide_eq_true (show n ≤ 1114111 by omega)]; rfl
    · rw [decide_eq_true (show (n : Int) > 57343 by omega), decide_eq_false h2]
      cases decide (n ≤ 1114111) <;> rfl
theorem rIsR (n : Nat) : R02_Rune (n : Int) = some (runeB n) := by
  have a : decide ((n : Int) ≥ 0) = true := decide_eq_true (by omega)
  have b : decide ((n : Int) ≤ 1114111) = decide (n ≤ 1114111) := by
    by_cases h : n ≤ 1114111
    · rw [decide_eq_true h, decide_eq_true (by omega)]
    · rw [decide_eq_false h, decide_eq_false (by omega)]
  have c : decide ((n : Int) ≥ 55296) = decide (55296 ≤ n) := by
    by_cases h : 55296 ≤ n
    · rw [decide_eq_true h, decide_eq_true (by omega)]
    · rw [decide_eq_false h, decide_eq_false (by omega)]
  have d : decide ((n : Int) ≤ 57343) = decide (n ≤ 57343) := by
    by_cases h : n ≤ 57343
    · rw [decide_eq_true h, decide_eq_true (by omega)]
    · rw [decide_eq_false h, decide_eq_false (by omega)]
  rw [R02_Rune, a, b, c, d, runeB]
  cases decide (n ≤ 1114111) <;> cases decide (55296 ≤ n) <;> cases decide (n ≤ 57343) <;> rfl
theorem ltC (c : UInt8) (k : Nat) : decide ((c.toNat : Int) < (k : Int)) = decide (c.toNat < k) := ltI _ _
theorem geC (c : UInt8) (k : Nat) : decide ((c.toNat : Int) ≥ (k : Int)) = decide (k ≤ c.toNat) := by
  by_cases h : k ≤ c.toNat
  · rw [decide_eq_true h, decide_eq_true (by omega)]
  · rw [decide_eq_false h, decide_eq_false (by omega)]
/-- What Next makes of a tail. -/
def endP (o : Option Nat) (least m : Nat) : Nat × Nat := match o with
  | some n => if least ≤ n ∧ runeB n = true then (n, m + 1) else (65533, 1)
  | none => (65533, 1)
set_option maxRecDepth 20000 in
theorem tNext (s : List UInt8) (k : Nat) (hk : k < s.length) (hs : s.length < 9223372036854775807) : utf_Next s k = some (((nextP (s.drop k)).1 : Int), ((nextP (s.drop k)).2 : Int)) := by
  have d1 : decide ((k : Int) < 0) = false := decide_eq_false (by omega)
  have d2 : decide ((k : Int) ≥ (s.length : Int)) = false := decide_eq_false (by omega)
  have hc := s[k].toNat_lt
  have hr : cutL s (wr ((k : Int) + 1)) (s.length : Int) = some (s.drop (k + 1)) := by
    rw [wr_succ (by omega), cutL_ok (by omega) (by omega) (by omega)]
    simp
  rw [utf_Next, d1, d2, hr, dropE hk]
  have l128 := ltC s[k] 128
  have g192 := geC s[k] 192
  have l224 := ltC s[k] 224
  have g224 := geC s[k] 224
  have l240 := ltC s[k] 240
  have g240 := geC s[k] 240
  have l248 := ltC s[k] 248
  have b1 : ∀ a b : Bool, (if a = true then some b else some false : Option Bool) = some (a && b) := fun a b => by cases a <;> rfl
  simp only [Bool.false_eq_true, if_false, bind_some', idx_nat, getE hk]
  rw [show (128 : Int) = ((128 : Nat) : Int) from rfl, show (192 : Int) = ((192 : Nat) : Int) from rfl, show (224 : Int) = ((224 : Nat) : Int) from rfl, show (240 : Int) = ((240 : Nat) : Int) from rfl, show (248 : Int) = ((248 : Nat) : Int) from rfl, l128, g192, l224, g224, l240, g240, l248]
  simp only [b1, bind_some']
  rw [nextP]
  unfold nextC
  have fin : ∀ (v least m : Nat), m ≤ 3 → v < 64 → (utf_tail (s.drop (k + 1)) (v : Int) (m : Int) >>= fun x10 =>
      (if (!x10.2) = true then some true else if decide (x10.1 < (least : Int)) = true then some true else utf_is x10.1 >>= fun x12 => some (!x12) : Option Bool) >>= fun o11 =>
      if o11 = true then some ((65533 : Int), (1 : Int)) else some (x10.1, wr ((m : Int) + 1))) =
      some (((endP (if (s.drop (k + 1)).length < m then none else tailP m (s.drop (k + 1)) v) least m).1 : Int), ((endP (if (s.drop (k + 1)).length < m then none else tailP m (s.drop (k + 1)) v) least m).2 : Int)) := fun v least m hm hv => by
    rw [tTail _ m v hm hv]
    cases (if (s.drop (k + 1)).length < m then none else tailP m (s.drop (k + 1)) v) with
    | none => rfl
    | some n =>
      simp only [bind_some', Bool.not_true, Bool.false_eq_true, if_false, ltI, tIsR, endP]
      by_cases h1 : n < least
      · rw [decide_eq_true h1, if_neg (fun h => absurd h.1 (by omega) : ¬ (least ≤ n ∧ runeB n = true))]; rfl
      · rw [decide_eq_false h1]
        cases hrn : runeB n with
        | true => rw [if_pos (⟨by omega, rfl⟩ : least ≤ n ∧ true = true), wr_succ (by omega)]; rfl
        | false => rw [if_neg (fun h => by cases h.2 : ¬ (least ≤ n ∧ false = true))]; rfl
  by_cases h1 : s[k].toNat < 128
  · rw [decide_eq_true h1, if_pos h1]
    simp only [if_true, bind_some']
    rw [i32_in (by omega) (by omega)]; rfl
  rw [decide_eq_false h1, if_neg h1]
  simp only [Bool.false_eq_true, if_false]
  have cc : ∀ c : UInt8, contB c = true → c.toNat - 128 < 64 := fun c h => by unfold contB at h; simp at h; omega
  by_cases h2 : 192 ≤ s[k].toNat ∧ s[k].toNat < 224
  · rw [decide_eq_true h2.1, decide_eq_true h2.2, if_pos h2, b31]
    simp only [Bool.and_true, if_true, bind_some']
    rw [i32_in (by omega) (by omega)]
    have f := fin (s[k].toNat % 32) 128 1 (by omega) (by omega)
    rw [show ((1 : Nat) : Int) = 1 from rfl] at f
    rw [f]
    have e : s[k].toNat % 32 = s[k].toNat - 192 := by omega
    rw [e]
    cases s.drop (k + 1) with
    | nil => rfl
    | cons c1 r1 =>
      simp only [List.length_cons, if_neg (by omega : ¬ r1.length + 1 < 1), tailP]
      cases h : contB c1 with
      | false => rfl
      | true =>
        have := cc c1 h
        have hr : runeB ((s[k].toNat - 192) * 64 + (c1.toNat - 128)) = true := by unfold runeB; rw [decide_eq_true (by omega), decide_eq_false (by omega)]; rfl
        simp only [if_true, endP, hr, and_true, true_and]
  rw [if_neg h2]
  have d2 : (decide (192 ≤ s[k].toNat) && decide (s[k].toNat < 224)) = false := by
    rw [Bool.and_eq_false_iff]
    by_cases h : 192 ≤ s[k].toNat
    · exact .inr (decide_eq_false (by omega))
    · exact .inl (decide_eq_false h)
  rw [d2]
  simp only [Bool.false_eq_true, if_false]
  by_cases h3 : 224 ≤ s[k].toNat ∧ s[k].toNat < 240
  · rw [decide_eq_true h3.1, decide_eq_true h3.2, if_pos h3, b15]
    simp only [Bool.and_true, if_true, bind_some']
    rw [i32_in (by omega) (by omega)]
    have f := fin (s[k].toNat % 16) 2048 2 (by omega) (by omega)
    rw [show ((2 : Nat) : Int) = 2 from rfl, show ((2048 : Nat) : Int) = 2048 from rfl] at f
    rw [f]
    have e : s[k].toNat % 16 = s[k].toNat - 224 := by omega
    rw [e]
    match s.drop (k + 1) with
    | [] => rfl
    | [c1] => rfl
    | c1 :: c2 :: r1 =>
      simp only [List.length_cons, if_neg (by omega : ¬ r1.length + 1 + 1 < 2), tailP]
      cases h : contB c1 with
      | false => rfl
      | true =>
        cases h' : contB c2 with
        | false => simp [endP]
        | true => simp only [if_true, endP, true_and]
  rw [if_neg h3]
  have d3 : (decide (224 ≤ s[k].toNat) && decide (s[k].toNat < 240)) = false := by
    rw [Bool.and_eq_false_iff]
    by_cases h : 224 ≤ s[k].toNat
    · exact .inr (decide_eq_false (by omega))
    · exact .inl (decide_eq_false h)
  rw [d3]
  simp only [Bool.false_eq_true, if_false]
  by_cases h4 : 240 ≤ s[k].toNat ∧ s[k].toNat < 248
  · rw [decide_eq_true h4.1, decide_eq_true h4.2, if_pos h4, b7]
    simp only [Bool.and_true, if_true, bind_some']
    rw [i32_in (by omega) (by omega)]
    have f := fin (s[k].toNat % 8) 65536 3 (by omega) (by omega)
    rw [show ((3 : Nat) : Int) = 3 from rfl, show ((65536 : Nat) : Int) = 65536 from rfl] at f
    rw [f]
    have e : s[k].toNat % 8 = s[k].toNat - 240 := by omega
    rw [e]
    match s.drop (k + 1) with
    | [] => rfl
    | [c1] => rfl
    | [c1, c2] => rfl
    | c1 :: c2 :: c3 :: r1 =>
      simp only [List.length_cons, if_neg (by omega : ¬ r1.length + 1 + 1 + 1 < 3), tailP]
      cases h : contB c1 with
      | false => rfl
      | true =>
        cases h' : contB c2 with
        | false => simp [endP]
        | true =>
          cases h'' : contB c3 with
          | false => simp [endP]
          | true => simp only [if_true, endP, true_and]
  rw [if_neg h4]
  have d4 : (decide (240 ≤ s[k].toNat) && decide (s[k].toNat < 248)) = false := by
    rw [Bool.and_eq_false_iff]
    by_cases h : 240 ≤ s[k].toNat
    · exact .inr (decide_eq_false (by omega))
    · exact .inl (decide_eq_false h)
  rw [d4]
  rfl
theorem nextP_size (l : List UInt8) (h : l ≠ []) : 1 ≤ (nextP l).2 ∧ (nextP l).2 ≤ l.length := by
  cases l with
  | nil => exact absurd rfl h
  | cons c r =>
    rw [nextP]
    unfold nextC
    split
    · simp
    · split
      · split
        · split <;> simp
        · simp
      · split
        · split
          · split <;> simp
          · simp
        · split
          · split
            · split <;> simp
            · simp
          · simp
end Go.Proofs.YtagokkpnfceidaaDoor
end

section
namespace Go.Proofs.YtagokkpnfceidaaDoor
open Go.RowKit

def bytesN (n : Nat) : List Nat :=
  if n < 128 then [n] else if n < 2048 then [192 + n / 64, 128 + n % 64] else if n < 65536 then [224 + n / 4096, 128 + n / 64 % 64, 128 + n % 64] else [240 + n / 262144, 128 + n / 4096 % 64, 128 + n / 64 % 64, 128 + n % 64]
theorem bytes_eq (l : List Nat) (h : ∀ x ∈ l, x < 256) (m : List UInt8) : (l.map UInt8.ofNat == m) = decide (l = m.map UInt8.toNat) := by
  have key : l.map UInt8.ofNat = m ↔ l = m.map UInt8.toNat := by
    constructor
    · intro e
      subst e
      rw [List.map_map]
      conv => lhs; rw [← List.map_id l]
      refine List.map_congr_left fun x hx => ?_
      have := h x hx
      show x = (UInt8.ofNat x).toNat
      rw [UInt8.toNat_ofNat', Nat.mod_eq_of_lt this]
    · intro e
      subst e
      rw [List.map_map]
      conv => rhs; rw [← List.map_id m]
      exact List.map_congr_left fun x _ => by simp
  by_cases he : l.map UInt8.ofNat = m
  · rw [decide_eq_true (key.1 he), beq_iff_eq]; exact he
  · rw [decide_eq_false (fun k => he (key.2 k)), beq_eq_false_iff_ne]; exact he
theorem b2s_ok (l : List Nat) (h : ∀ x ∈ l, x < 256) : b2s (l.map fun x : Nat => (x : Int)) = some (l.map UInt8.ofNat) := by
  unfold b2s
  rw [if_pos]
  · rw [List.map_map]; rfl
  · rw [List.all_eq_true]
    intro n hn
    obtain ⟨x, hx, rfl⟩ := List.mem_map.1 hn
    have := h x hx
    simp only [decide_eq_true_eq]
    omega
theorem td (n k : Nat) : ((n : Int).tdiv (k : Int)) = ((n / k : Nat) : Int) := by rw [Int.tdiv_eq_ediv_of_nonneg (by omega)]; rfl
theorem tm (n k : Nat) : ((n : Int).tmod (k : Int)) = ((n % k : Nat) : Int) := by rw [Int.tmod_eq_emod_of_nonneg (by omega)]; rfl
theorem wrN (n : Nat) (h : n < 9000000000000) : wr (n : Int) = (n : Int) := wr_in (by omega) (by omega)
theorem u8N (n : Nat) (h : n < 256) : IntKind.u8.wrap (n : Int) = (n : Int) := u8_in (by omega) (by omega)
set_option maxRecDepth 20000 in
theorem rBytes (n : Nat) (h : runeB n = true) : R02_Bytes (n : Int) = some ((bytesN n).map UInt8.ofNat) := by
  have hn : n ≤ 1114111 := by unfold runeB at h; rw [Bool.and_eq_true] at h; exact of_decide_eq_true h.1
  have a1 : decide ((n : Int) < 128) = decide (n < 128) := ltI n 128
  have a2 : decide ((n : Int) < 2048) = decide (n < 2048) := ltI n 2048
  have a3 : decide ((n : Int) < 65536) = decide (n < 65536) := ltI n 65536
  have d64 : (n : Int).tdiv 64 = ((n / 64 : Nat) : Int) := td n 64
  have m64 : (n : Int).tmod 64 = ((n % 64 : Nat) : Int) := tm n 64
  have d4096 : (n : Int).tdiv 4096 = ((n / 4096 : Nat) : Int) := td n 4096
  have d262 : (n : Int).tdiv 262144 = ((n / 262144 : Nat) : Int) := td n 262144
  have w1 : ∀ a b : Nat, a + b < 256 → IntKind.u8.wrap (wr ((a : Int) + (b : Int))) = ((a + b : Nat) : Int) := fun a b h => by
    rw [wr_in (by omega) (by omega), u8_in (by omega) (by omega)]; rfl
  rw [R02_Bytes, rIsR, h]
  simp only [bind_some', Bool.not_true, Bool.false_eq_true, if_false, a1, a2, a3, d64, m64, d4096, d262]
  rw [wrN (n / 64) (by omega), wrN (n / 4096) (by omega), wrN (n / 262144) (by omega)]
  have t64 : (((n / 64 : Nat) : Int)).tmod 64 = ((n / 64 % 64 : Nat) : Int) := tm (n / 64) 64
  have t4096 : (((n / 4096 : Nat) : Int)).tmod 64 = ((n / 4096 % 64 : Nat) : Int) := tm (n / 4096) 64
  rw [t64, t4096]
  unfold bytesN
  by_cases h1 : n < 128
  · rw [decide_eq_true h1, if_pos h1, u8N n (by omega)]
    simp only [if_true]
    have := b2s_ok [n] (by simp; omega)
    simp only [List.map_cons, List.map_nil] at this
    rw [this]; rfl
  rw [decide_eq_false h1, if_neg h1]
  by_cases h2 : n < 2048
  · rw [decide_eq_true h2, if_pos h2]
    have e1 := w1 192 (n / 64) (by omega)
    have e2 := w1 128 (n % 64) (by omega)
    have := b2s_ok [192 + n / 64, 128 + n % 64] (by simp; omega)
    simp only [List.map_cons, List.map_nil] at this
    simp only [Bool.false_eq_true, if_false, if_true]
    rw [show (192 : Int) = ((192 : Nat) : Int) from rfl, show (128 : Int) = ((128 : Nat) : Int) from rfl, e1, e2, this]; rfl
  rw [decide_eq_false h2, if_neg h2]
  by_cases h3 : n < 65536
  · rw [decide_eq_true h3, if_pos h3]
    have e1 := w1 224 (n / 4096) (by omega)
    have e2 := w1 128 (n / 64 % 64) (by omega)
    have e3 := w1 128 (n % 64) (by omega)
    have := b2s_ok [224 + n / 4096, 128 + n / 64 % 64, 128 + n % 64] (by simp; omega)
    simp only [List.map_cons, List.map_nil] at this
    simp only [Bool.false_eq_true, if_false, if_true]
    rw [show (224 : Int) = ((224 : Nat) : Int) from rfl, show (128 : Int) = ((128 : Nat) : Int) from rfl, e1, e2, e3, this]; rfl
  rw [decide_eq_false h3, if_neg h3]
  have e0 := w1 240 (n / 262144) (by omega)
  have e1 := w1 128 (n / 4096 % 64) (by omega)
  have e2 := w1 128 (n / 64 % 64) (by omega)
  have e3 := w1 128 (n % 64) (by omega)
  have := b2s_ok [240 + n / 262144, 128 + n / 4096 % 64, 128 + n / 64 % 64, 128 + n % 64] (by simp; omega)
  simp only [List.map_cons, List.map_nil] at this
  simp only [Bool.false_eq_true, if_false]
  rw [show (240 : Int) = ((240 : Nat) : Int) from rfl, show (128 : Int) = ((128 : Nat) : Int) from rfl, e0, e1, e2, e3, this]; rfl
theorem bytesN_lt (n : Nat) (h : n ≤ 1114111) : ∀ x ∈ bytesN n, x < 256 := by
  unfold bytesN
  split
  · simp; omega
  · split
    · simp; omega
    · split <;> simp <;> omega
theorem rTest (s : List UInt8) (k m : Nat) (hm : k + m ≤ s.length) (hs : s.length < 9000000000000) (n : Int) :
    ( if (decide (n ≥ 0)) = true then
        R02_Rune n >>= fun x11 =>
        if x11 = true then
          R02_Bytes n >>= fun x12 =>
          cutL s k (wr ((k : Int) + m)) >>= fun x13 =>
          some (x12 == x13)
        else
          some false
      else
        some false : Option Bool) = some (decide (0 ≤ n) && (runeB n.toNat && decide (bytesN n.toNat = ((s.take (k + m)).drop k).map UInt8.toNat))) := by
  have e : wr ((k : Int) + m) = ((k + m : Nat) : Int) := by rw [wr_in (by omega) (by omega)]; rfl
  by_cases h : 0 ≤ n
  · obtain ⟨v, rfl⟩ : ∃ v : Nat, n = v := ⟨n.toNat, by omega⟩
    rw [decide_eq_true (show (v : Int) ≥ 0 by omega), rIsR, e, cutL_ok (by omega) (by omega) (by omega)]
    simp only [if_true, bind_some', Int.toNat_natCast, Bool.true_and]
    cases hr : runeB v with
    | false => rfl
    | true =>
      have hv : v ≤ 1114111 := by unfold runeB at hr; rw [Bool.and_eq_true] at hr; exact of_decide_eq_true hr.1
      rw [rBytes v hr]
      simp only [if_true, bind_some', bytes_eq _ (bytesN_lt v hv), Bool.true_and]
  · rw [decide_eq_false (show ¬ n ≥ 0 from h)]; rfl

theorem wr64 (a b : Int) (ha : -3000000 ≤ a) (ha2 : a ≤ 3000000) (hb : 0 ≤ b) (hb2 : b ≤ 255) : wr ((wr ((wr (64 * a)) + (wr b))) - 128) = 64 * a + b - 128 := by
  rw [wr_in (n := 64 * a) (by omega) (by omega), wr_in (n := b) (by omega) (by omega), wr_in (n := 64 * a + b) (by omega) (by omega), wr_in (by omega) (by omega)]
/-- What the next byte adds. -/
def addN (a : Int) (c : UInt8) : Int := 64 * a + c.toNat - 128
theorem rL2 (s : List UInt8) (k : Nat) (v6 : List Int) (m : Nat) (hm : k + m ≤ s.length) (hm4 : m ≤ 4) (hs : s.length < 9000000000000) : ∀ d (i : Nat) (v : Int), i + d = m → 1 ≤ i → (i = 1 → -300 ≤ v ∧ v ≤ 300) → (i = 2 → -30000 ≤ v ∧ v ≤ 30000) → (i = 3 → -3000000 ≤ v ∧ v ≤ 3000000) →
    R02_Next_L2 s k v6 m v i = some (((s.drop (k + i)).take d).foldl addN v) := by
  intro d
  induction d with
  | zero =>
    intro i v hi _ _ _ _
    rw [R02_Next_L2, ltI, decide_eq_false (by omega : ¬ i < m)]
    simp
  | succ d ih =>
    intro i v hi hi1 h1 h2 h3
    have hk : k + i < s.length := by omega
    have e1 : wr ((k : Int) + i) = ((k + i : Nat) : Int) := by rw [wr_in (by omega) (by omega)]; rfl
    have hc := s[k + i].toNat_lt
    have hb : -3000000 ≤ v ∧ v ≤ 3000000 := by omega
    rw [R02_Next_L2, ltI, decide_eq_true (by omega : i < m), e1, wr_succ (by omega)]
    simp only [if_true, idx_nat, getE hk, bind_some']
    rw [wr64 v _ hb.1 hb.2 (by omega) (by omega), dropE hk, List.take_succ_cons, List.foldl_cons]
    exact ih (i + 1) (addN v s[k + i]) (by omega) (by omega) (by omega) (by unfold addN; omega) (by unfold addN; omega)
def leadL : List Int := [0, 0, 192, 224, 240]
/-- The number that so many bytes would be. -/
def numN (c : UInt8) (r : List UInt8) (m : Nat) : Int := (r.take (m - 1)).foldl addN ((c.toNat : Int) - (leadL[m]?.getD 0))
def tstB (c : UInt8) (r : List UInt8) (m : Nat) : Bool := decide (0 ≤ numN c r m) && (runeB (numN c r m).toNat && decide (bytesN (numN c r m).toNat = ((c :: r).take m).map UInt8.toNat))
theorem rL1 (s : List UInt8) (k : Nat) (hk : k < s.length) (hs : s.length < 9000000000000) (m : Nat) (h1 : 1 ≤ m) (h4 : m ≤ 4) :
    R02_Next_L1 s k leadL m = if k + m ≤ s.length then (if tstB s[k] (s.drop (k + 1)) m = true then some (.inr (numN s[k] (s.drop (k + 1)) m, (m : Int))) else R02_Next_L1 s k leadL ((m + 1 : Nat) : Int)) else some (.inl ()) := by
  have e0 : wr ((s.length : Int) - k) = ((s.length - k : Nat) : Int) := by rw [wr_in (by omega) (by omega)]; omega
  have a4 : decide ((m : Int) ≤ 4) = true := decide_eq_true (by omega)
  have hc := s[k].toNat_lt
  rw [R02_Next_L1, e0, a4]
  by_cases hm : k + m ≤ s.length
  · have a5 : decide ((m : Int) ≤ ((s.length - k : Nat) : Int)) = true := decide_eq_true (by omega)
    obtain ⟨ld, hld, hl0, hl1⟩ : ∃ ld : Int, leadL[m]? = some ld ∧ 0 ≤ ld ∧ ld ≤ 240 := by
      match m, h1, h4 with
      | 1, _, _ => exact ⟨0, rfl, by omega, by omega⟩
      | 2, _, _ => exact ⟨192, rfl, by omega, by omega⟩
      | 3, _, _ => exact ⟨224, rfl, by omega, by omega⟩
      | 4, _, _ => exact ⟨240, rfl, by omega, by omega⟩
    have ew : wr ((wr (s[k].toNat : Int)) - ld) = (s[k].toNat : Int) - ld := by rw [wr_in (n := (s[k].toNat : Int)) (by omega) (by omega), wr_in (by omega) (by omega)]
    have h2 := rL2 s k leadL m hm h4 hs (m - 1) 1 ((s[k].toNat : Int) - ld) (by omega) (by omega) (by omega) (by omega) (by omega)
    have en : numN s[k] (s.drop (k + 1)) m = ((s.drop (k + 1)).take (m - 1)).foldl addN ((s[k].toNat : Int) - ld) := by rw [numN, hld]; rfl
    rw [← en, show ((1 : Nat) : Int) = 1 from rfl] at h2
    have ht := rTest s k m hm hs (numN s[k] (s.drop (k + 1)) m)
    have et : ((s.take (k + m)).drop k) = ((s[k] :: s.drop (k + 1)).take m) := by rw [← dropE hk, List.drop_take]; congr 1; omega
    rw [et] at ht
    rw [a5, if_pos hm, wr_succ (by omega)]
    simp only [if_true, bind_some', idx_nat, getE hk, hld, ew, h2]
    rw [ht]
    rfl
  · have a5 : decide ((m : Int) ≤ ((s.length - k : Nat) : Int)) = false := decide_eq_false (by omega)
    rw [a5, if_neg hm]
    rfl
theorem tst1 (c : UInt8) (r : List UInt8) : tstB c r 1 = decide (c.toNat < 128) ∧ numN c r 1 = (c.toNat : Int) := by
  have hc := c.toNat_lt
  have en : numN c r 1 = (c.toNat : Int) := by simp [numN, leadL]
  refine ⟨?_, en⟩
  have hr : runeB c.toNat = true := by unfold runeB; rw [decide_eq_true (by omega), decide_eq_false (by omega)]; rfl
  rw [tstB, en, decide_eq_true (by omega), Int.toNat_natCast, hr]
  simp only [Bool.true_and, List.take_succ_cons, List.take_zero, List.map_cons, List.map_nil]
  unfold bytesN
  by_cases h : c.toNat < 128
  · rw [decide_eq_true h, if_pos h]; simp
  · rw [decide_eq_false h, if_neg h, if_pos (by omega)]
    simp
theorem tst2 (c c1 : UInt8) (r : List UInt8) : tstB c (c1 :: r) 2 = decide ((192 ≤ c.toNat ∧ c.toNat < 224) ∧ contB c1 = true ∧ 128 ≤ (c.toNat - 192) * 64 + (c1.toNat - 128)) ∧ numN c (c1 :: r) 2 = 64 * ((c.toNat : Int) - 192) + c1.toNat - 128 := by
  have hc := c.toNat_lt
  have hc1 := c1.toNat_lt
  have en : numN c (c1 :: r) 2 = 64 * ((c.toNat : Int) - 192) + c1.toNat - 128 := by simp [numN, leadL, addN]
  refine ⟨?_, en⟩
  rw [tstB, en]
  simp only [List.take_succ_cons, List.take_zero, List.map_cons, List.map_nil]
  have hcont : contB c1 = true ↔ (128 ≤ c1.toNat ∧ c1.toNat < 192) := by unfold contB; simp
  by_cases hn : 0 ≤ 64 * ((c.toNat : Int) - 192) + c1.toNat - 128
  · obtain ⟨n, hn2⟩ : ∃ n : Nat, 64 * ((c.toNat : Int) - 192) + c1.toNat - 128 = n := ⟨(64 * ((c.toNat : Int) - 192) + c1.toNat - 128).toNat, by omega⟩
    rw [hn2, Int.toNat_natCast, decide_eq_true (by omega), Bool.true_and]
    have hlt : n < 5000 := by omega
    have hr : runeB n = true := by unfold runeB; rw [decide_eq_true (by omega), decide_eq_false (by omega)]; rfl
    rw [hr, Bool.true_and]
    congr 1
    apply propext
    rw [hcont]
    unfold bytesN
    by_cases h1 : n < 128
    · rw [if_pos h1]
      constructor
      · intro h; simp at h
      · intro h; omega
    · rw [if_neg h1]
      by_cases h2 : n < 2048
      · rw [if_pos h2]
        simp only [List.cons.injEq, and_true]
        omega
      · rw [if_neg h2, if_pos (by omega)]
        constructor
        · intro h; simp at h
        · intro h; omega
  · rw [decide_eq_false hn, Bool.false_and, decide_eq_false]
    rw [hcont]; omega
theorem tst3 (c c1 c2 : UInt8) (r : List UInt8) : tstB c (c1 :: c2 :: r) 3 = decide ((224 ≤ c.toNat ∧ c.toNat < 240) ∧ contB c1 = true ∧ contB c2 = true ∧ 2048 ≤ ((c.toNat - 224) * 64 + (c1.toNat - 128)) * 64 + (c2.toNat - 128) ∧ runeB (((c.toNat - 224) * 64 + (c1.toNat - 128)) * 64 + (c2.toNat - 128)) = true) ∧
    numN c (c1 :: c2 :: r) 3 = 64 * (64 * ((c.toNat : Int) - 224) + c1.toNat - 128) + c2.toNat - 128 := by
  have hc := c.toNat_lt
  have hc1 := c1.toNat_lt
  have hc2 := c2.toNat_lt
  have en : numN c (c1 :: c2 :: r) 3 = 64 * (64 * ((c.toNat : Int) - 224) + c1.toNat - 128) + c2.toNat - 128 := by simp [numN, leadL, addN]
  refine ⟨?_, en⟩
  rw [tstB, en]
  simp only [List.take_succ_cons, List.take_zero, List.map_cons, List.map_nil]
  have hcont : contB c1 = true ↔ (128 ≤ c1.toNat ∧ c1.toNat < 192) := by unfold contB; simp
  have hcont2 : contB c2 = true ↔ (128 ≤ c2.toNat ∧ c2.toNat < 192) := by unfold contB; simp
  by_cases hn : 0 ≤ 64 * (64 * ((c.toNat : Int) - 224) + c1.toNat - 128) + c2.toNat - 128
  · obtain ⟨n, hn2⟩ : ∃ n : Nat, 64 * (64 * ((c.toNat : Int) - 224) + c1.toNat - 128) + c2.toNat - 128 = n := ⟨(64 * (64 * ((c.toNat : Int) - 224) + c1.toNat - 128) + c2.toNat - 128).toNat, by omega⟩
    rw [hn2, Int.toNat_natCast, decide_eq_true (by omega), Bool.true_and]
    have hlt : n < 200000 := by omega
    have key : bytesN n = [c.toNat, c1.toNat, c2.toNat] ↔ ((224 ≤ c.toNat ∧ c.toNat < 240) ∧ (128 ≤ c1.toNat ∧ c1.toNat < 192) ∧ (128 ≤ c2.toNat ∧ c2.toNat < 192) ∧ 2048 ≤ n) := by
      unfold bytesN
      by_cases h1 : n < 128
      · rw [if_pos h1]
        exact ⟨fun h => by simp at h, fun h => by omega⟩
      rw [if_neg h1]
      by_cases h2 : n < 2048
      · rw [if_pos h2]
        exact ⟨fun h => by simp at h, fun h => by omega⟩
      rw [if_neg h2]
      by_cases h3 : n < 65536
      · rw [if_pos h3]
        simp only [List.cons.injEq, and_true]
        omega
      · rw [if_neg h3]
        exact ⟨fun h => by simp at h, fun h => by omega⟩
    rw [Bool.eq_iff_iff]
    simp only [Bool.and_eq_true, decide_eq_true_eq]
    rw [key, hcont, hcont2]
    constructor
    · rintro ⟨hr, a, b, c', d⟩
      have e : ((c.toNat - 224) * 64 + (c1.toNat - 128)) * 64 + (c2.toNat - 128) = n := by omega
      exact ⟨a, b, c', by omega, by rw [e]; exact hr⟩
    · rintro ⟨a, b, c', d, hr⟩
      have e : ((c.toNat - 224) * 64 + (c1.toNat - 128)) * 64 + (c2.toNat - 128) = n := by omega
      rw [e] at hr d
      exact ⟨hr, a, b, c', d⟩
  · rw [decide_eq_false hn, Bool.false_and, decide_eq_false]
    rw [hcont, hcont2]; omega
theorem tst4 (c c1 c2 c3 : UInt8) (r : List UInt8) : tstB c (c1 :: c2 :: c3 :: r) 4 = decide ((240 ≤ c.toNat ∧ c.toNat < 248) ∧ contB c1 = true ∧ contB c2 = true ∧ contB c3 = true ∧ 65536 ≤ (((c.toNat - 240) * 64 + (c1.toNat - 128)) * 64 + (c2.toNat - 128)) * 64 + (c3.toNat - 128) ∧ runeB ((((c.toNat - 240) * 64 + (c1.toNat - 128)) * 64 + (c2.toNat - 128)) * 64 + (c3.toNat - 128)) = true) ∧
    numN c (c1 :: c2 :: c3 :: r) 4 = 64 * (64 * (64 * ((c.toNat : Int) - 240) + c1.toNat - 128) + c2.toNat - 128) + c3.toNat - 128 := by
  have hc := c.toNat_lt
  have hc1 := c1.toNat_lt
  have hc2 := c2.toNat_lt
  have hc3 := c3.toNat_lt
  have en : numN c (c1 :: c2 :: c3 :: r) 4 = 64 * (64 * (64 * ((c.toNat : Int) - 240) + c1.toNat - 128) + c2.toNat - 128) + c3.toNat - 128 := by simp [numN, leadL, addN]
  refine ⟨?_, en⟩
  rw [tstB, en]
  simp only [List.take_succ_cons, List.take_zero, List.map_cons, List.map_nil]
  have hcont : contB c1 = true ↔ (128 ≤ c1.toNat ∧ c1.toNat < 192) := by unfold contB; simp
  have hcont2 : contB c2 = true ↔ (128 ≤ c2.toNat ∧ c2.toNat < 192) := by unfold contB; simp
  have hcont3 : contB c3 = true ↔ (128 ≤ c3.toNat ∧ c3.toNat < 192) := by unfold contB; simp
  by_cases hn : 0 ≤ 64 * (64 * (64 * ((c.toNat : Int) - 240) + c1.toNat - 128) + c2.toNat - 128) + c3.toNat - 128
  · obtain ⟨n, hn2⟩ : ∃ n : Nat, 64 * (64 * (64 * ((c.toNat : Int) - 240) + c1.toNat - 128) + c2.toNat - 128) + c3.toNat - 128 = n := ⟨(64 * (64 * (64 * ((c.toNat : Int) - 240) + c1.toNat - 128) + c2.toNat - 128) + c3.toNat - 128).toNat, by omega⟩
    rw [hn2, Int.toNat_natCast, decide_eq_true (by omega), Bool.true_and]
    have key : runeB n = true → (bytesN n = [c.toNat, c1.toNat, c2.toNat, c3.toNat] ↔ ((240 ≤ c.toNat ∧ c.toNat < 248) ∧ (128 ≤ c1.toNat ∧ c1.toNat < 192) ∧ (128 ≤ c2.toNat ∧ c2.toNat < 192) ∧ (128 ≤ c3.toNat ∧ c3.toNat < 192) ∧ 65536 ≤ n)) := fun hr => by
      have hlt : n ≤ 1114111 := by unfold runeB at hr; rw [Bool.and_eq_true] at hr; exact of_decide_eq_true hr.1
      unfold bytesN
      by_cases h1 : n < 128
      · rw [if_pos h1]
        exact ⟨fun h => by simp at h, fun h => by omega⟩
      rw [if_neg h1]
      by_cases h2 : n < 2048
      · rw [if_pos h2]
        exact ⟨fun h => by simp at h, fun h => by omega⟩
      rw [if_neg h2]
      by_cases h3 : n < 65536
      · rw [if_pos h3]
        exact ⟨fun h => by simp at h, fun h => by omega⟩
      · rw [if_neg h3]
        simp only [List.cons.injEq, and_true]
        omega
    rw [Bool.eq_iff_iff]
    simp only [Bool.and_eq_true, decide_eq_true_eq]
    rw [hcont, hcont2, hcont3]
    constructor
    · rintro ⟨hr, hb⟩
      obtain ⟨a, b, c', d', d⟩ := (key hr).1 hb
      have e : (((c.toNat - 240) * 64 + (c1.toNat - 128)) * 64 + (c2.toNat - 128)) * 64 + (c3.toNat - 128) = n := by omega
      exact ⟨a, b, c', d', by omega, by rw [e]; exact hr⟩
    · rintro ⟨a, b, c', d', d, hr⟩
      have e : (((c.toNat - 240) * 64 + (c1.toNat - 128)) * 64 + (c2.toNat - 128)) * 64 + (c3.toNat - 128) = n := by omega
      rw [e] at hr d
      exact ⟨hr, (key hr).2 ⟨a, b, c', d', d⟩⟩
  · rw [decide_eq_false hn, Bool.false_and, decide_eq_false]
    rw [hcont, hcont2, hcont3]; omega
theorem rNext (s : List UInt8) (k : Nat) (hk : k < s.length) (hs : s.length < 9000000000000) : R02_Next s k = some (((nextP (s.drop k)).1 : Int), ((nextP (s.drop k)).2 : Int)) := by
  have d1 : decide ((k : Int) < 0) = false := decide_eq_false (by omega)
  have d2 : decide ((k : Int) ≥ (s.length : Int)) = false := decide_eq_false (by omega)
  have hc := s[k].toNat_lt
  have l1 := rL1 s k hk hs 1 (by omega) (by omega)
  have l2 := rL1 s k hk hs 2 (by omega) (by omega)
  have l3 := rL1 s k hk hs 3 (by omega) (by omega)
  have l4 := rL1 s k hk hs 4 (by omega) (by omega)
  have l5 : R02_Next_L1 s k leadL ((4 + 1 : Nat) : Int) = some (.inl ()) := by
    rw [R02_Next_L1, show decide (((4 + 1 : Nat) : Int) ≤ 4) = false from rfl]
    simp only [Bool.false_eq_true, if_false, bind_some']
  have hdl : (s.drop (k + 1)).length = s.length - (k + 1) := List.length_drop
  rw [R02_Next, d1, d2, dropE hk, nextP]
  show (R02_Next_L1 s k leadL ((1 : Nat) : Int) >>= _) = _
  rw [l1, if_pos (by omega), (tst1 _ _).1, (tst1 _ _).2, l2]
  unfold nextC
  by_cases h1 : s[k].toNat < 128
  · rw [decide_eq_true h1, if_pos rfl, if_pos h1]; rfl
  rw [decide_eq_false h1, if_neg (by decide), if_neg h1]
  generalize hr : s.drop (k + 1) = r at *
  match r with
  | [] =>
    simp at hdl
    rw [if_neg (by omega)]
    simp
  | [c1] =>
    simp at hdl
    have hc1 := c1.toNat_lt
    rw [if_pos (by omega), (tst2 _ _ _).1, (tst2 _ _ _).2, l3, if_neg (by omega : ¬ k + 3 ≤ s.length)]
    dsimp only
    by_cases h2 : 192 ≤ s[k].toNat ∧ s[k].toNat < 224
    · rw [if_pos h2]
      by_cases h3 : contB c1 = true ∧ 128 ≤ (s[k].toNat - 192) * 64 + (c1.toNat - 128)
      · have h4 : 128 ≤ c1.toNat := by have := h3.1; unfold contB at this; simp at this; exact this.1
        rw [decide_eq_true ⟨h2, h3⟩, if_pos rfl, if_pos h3]
        simp only [bind_some']
        congr 2
        omega
      · rw [decide_eq_false (fun h => h3 h.2), if_neg (by decide), if_neg h3]; rfl
    · rw [decide_eq_false (fun h => h2 h.1), if_neg (by decide), if_neg h2]
      simp
  | [c1, c2] =>
    simp at hdl
    have hc1 := c1.toNat_lt
    have hc2 := c2.toNat_lt
    rw [if_pos (by omega), (tst2 _ _ _).1, (tst2 _ _ _).2, l3, if_pos (by omega : k + 3 ≤ s.length), (tst3 _ _ _ _).1, (tst3 _ _ _ _).2, l4, if_neg (by omega : ¬ k + 4 ≤ s.length)]
    dsimp only
    by_cases h2 : 192 ≤ s[k].toNat ∧ s[k].toNat < 224
    · rw [if_pos h2]
      by_cases h3 : contB c1 = true ∧ 128 ≤ (s[k].toNat - 192) * 64 + (c1.toNat - 128)
      · have h4 : 128 ≤ c1.toNat := by have := h3.1; unfold contB at this; simp at this; exact this.1
        rw [decide_eq_true ⟨h2, h3⟩, if_pos rfl, if_pos h3]
        simp only [bind_some']
        congr 2
        omega
      · rw [decide_eq_false (fun h => h3 h.2), if_neg (by decide), if_neg h3, decide_eq_false (fun h => by have := h.1; omega), if_neg (by decide)]; rfl
    · rw [decide_eq_false (fun h => h2 h.1), if_neg (by decide), if_neg h2]
      by_cases h5 : 224 ≤ s[k].toNat ∧ s[k].toNat < 240
      · rw [if_pos h5]
        by_cases h6 : contB c1 = true ∧ contB c2 = true ∧ 2048 ≤ ((s[k].toNat - 224) * 64 + (c1.toNat - 128)) * 64 + (c2.toNat - 128) ∧ runeB (((s[k].toNat - 224) * 64 + (c1.toNat - 128)) * 64 + (c2.toNat - 128)) = true
        · have h4 : 128 ≤ c1.toNat := by have := h6.1; unfold contB at this; simp at this; exact this.1
          have h4' : 128 ≤ c2.toNat := by have := h6.2.1; unfold contB at this; simp at this; exact this.1
          rw [decide_eq_true ⟨h5, h6⟩, if_pos rfl, if_pos h6]
          simp only [bind_some']
          congr 2
          omega
        · rw [decide_eq_false (fun h => h6 h.2), if_neg (by decide), if_neg h6]; rfl
      · rw [decide_eq_false (fun h => h5 h.1), if_neg (by decide), if_neg h5]
        simp
  | c1 :: c2 :: c3 :: r =>
    simp at hdl
    have hc1 := c1.toNat_lt
    have hc2 := c2.toNat_lt
    have hc3 := c3.toNat_lt
    rw [if_pos (by omega), (tst2 _ _ _).1, (tst2 _ _ _).2, l3, if_pos (by omega : k + 3 ≤ s.length), (tst3 _ _ _ _).1, (tst3 _ _ _ _).2, l4, if_pos (by omega : k + 4 ≤ s.length), (tst4 _ _ _ _ _).1, (tst4 _ _ _ _ _).2, l5]
    dsimp only
    by_cases h2 : 192 ≤ s[k].toNat ∧ s[k].toNat < 224
    · rw [if_pos h2]
      by_cases h3 : contB c1 = true ∧ 128 ≤ (s[k].toNat - 192) * 64 + (c1.toNat - 128)
      · have h4 : 128 ≤ c1.toNat := by have := h3.1; unfold contB at this; simp at this; exact this.1
        rw [decide_eq_true ⟨h2, h3⟩, if_pos rfl, if_pos h3]
        simp only [bind_some']
        congr 2
        omega
      · rw [decide_eq_false (fun h => h3 h.2), if_neg (by decide), if_neg h3, decide_eq_false (fun h => by have := h.1; omega), if_neg (by decide), decide_eq_false (fun h => by have := h.1; omega), if_neg (by decide)]; rfl
    · rw [decide_eq_false (fun h => h2 h.1), if_neg (by decide), if_neg h2]
      by_cases h5 : 224 ≤ s[k].toNat ∧ s[k].toNat < 240
      · rw [if_pos h5]
        by_cases h6 : contB c1 = true ∧ contB c2 = true ∧ 2048 ≤ ((s[k].toNat - 224) * 64 + (c1.toNat - 128)) * 64 + (c2.toNat - 128) ∧ runeB (((s[k].toNat - 224) * 64 + (c1.toNat - 128)) * 64 + (c2.toNat - 128)) = true
        · have h4 : 128 ≤ c1.toNat := by have := h6.1; unfold contB at this; simp at this; exact this.1
          have h4' : 128 ≤ c2.toNat := by have := h6.2.1; unfold contB at this; simp at this; exact this.1
          rw [decide_eq_true ⟨h5, h6⟩, if_pos rfl, if_pos h6]
          simp only [bind_some']
          congr 2
          omega
        · rw [decide_eq_false (fun h => h6 h.2), if_neg (by decide), if_neg h6, decide_eq_false (fun h => by have := h.1; omega), if_neg (by decide)]; rfl
      · rw [decide_eq_false (fun h => h5 h.1), if_neg (by decide), if_neg h5]
        by_cases h7 : 240 ≤ s[k].toNat ∧ s[k].toNat < 248
        · rw [if_pos h7]
          by_cases h8 : contB c1 = true ∧ contB c2 = true ∧ contB c3 = true ∧ 65536 ≤ (((s[k].toNat - 240) * 64 + (c1.toNat - 128)) * 64 + (c2.toNat - 128)) * 64 + (c3.toNat - 128) ∧ runeB ((((s[k].toNat - 240) * 64 + (c1.toNat - 128)) * 64 + (c2.toNat - 128)) * 64 + (c3.toNat - 128)) = true
          · have h4 : 128 ≤ c1.toNat := by have := h8.1; unfold contB at this; simp at this; exact this.1
            have h4' : 128 ≤ c2.toNat := by have := h8.2.1; unfold contB at this; simp at this; exact this.1
            have h4'' : 128 ≤ c3.toNat := by have := h8.2.2.1; unfold contB at this; simp at this; exact this.1
            rw [decide_eq_true ⟨h7, h8⟩, if_pos rfl, if_pos h8]
            simp only [bind_some']
            congr 2
            omega
          · rw [decide_eq_false (fun h => h8 h.2), if_neg (by decide), if_neg h8]; rfl
        · rw [decide_eq_false (fun h => h7 h.1), if_neg (by decide), if_neg h7]
          rfl
end Go.Proofs.YtagokkpnfceidaaDoor
end

section
namespace Go.Proofs.YtagokkpnfceidaaDoor
open Go.RowKit

theorem leN (n k : Nat) : decide ((n : Int) ≤ (k : Int)) = decide (n ≤ k) := by
  by_cases h : n ≤ k
  · rw [decide_eq_true h, decide_eq_true (by omega : (n : Int) ≤ k)]
  · rw [decide_eq_false h, decide_eq_false (by omega)]
theorem eqN (n k : Nat) : ((n : Int) == (k : Int)) = (n == k) := by
  by_cases h : n = k
  · subst h; simp
  · rw [beq_eq_false_iff_ne.2 h, beq_eq_false_iff_ne.2 (by omega)]
theorem s2b_app (a b : List UInt8) : s2b (a ++ b) = s2b a ++ s2b b := by simp [s2b]
theorem s2b_len (a : List UInt8) : (s2b a).length = a.length := by simp [s2b]
theorem b2s_s2b (l : List UInt8) : b2s (s2b l) = some l := by
  unfold b2s s2b
  rw [if_pos]
  · rw [List.map_map]
    congr 1
    have : ∀ c : UInt8, ((fun n : Int => UInt8.ofNat n.toNat) ∘ fun c : UInt8 => (c.toNat : Int)) c = c := fun c => by simp
    rw [show ((fun n : Int => UInt8.ofNat n.toNat) ∘ fun c : UInt8 => (c.toNat : Int)) = id from funext this, List.map_id]
  · rw [List.all_eq_true]
    intro n hn
    obtain ⟨c, -, rfl⟩ := List.mem_map.1 hn
    have := c.toNat_lt
    simp only [decide_eq_true_eq]
    omega
end Go.Proofs.YtagokkpnfceidaaDoor
end

section
namespace Go.Proofs.YtagokkpnfceidaaDoor
open Go.RowKit

def utfF : Nat → List UInt8 → Bool
  | 0, _ => true
  | n + 1, l => match l with
    | [] => true
    | _ :: _ => if (nextP l).1 = 65533 ∧ (nextP l).2 = 1 then false else utfF n (l.drop (nextP l).2)
theorem utfF_step (n : Nat) (l : List UInt8) (h : l ≠ []) : utfF (n + 1) l = if (nextP l).1 = 65533 ∧ (nextP l).2 = 1 then false else utfF n (l.drop (nextP l).2) := by
  cases l with
  | nil => exact absurd rfl h
  | cons c r => rfl
theorem badI (p : Nat × Nat) : (if (((p.1 : Nat) : Int) == 65533) = true then some (((p.2 : Nat) : Int) == 1) else some false : Option Bool) = some (decide (p.1 = 65533 ∧ p.2 = 1)) := by
  have a := eqN p.1 65533
  have b := eqN p.2 1
  rw [show (65533 : Int) = ((65533 : Nat) : Int) from rfl, show (1 : Int) = ((1 : Nat) : Int) from rfl, a, b]
  by_cases h1 : p.1 = 65533
  · rw [beq_iff_eq.2 h1, if_pos rfl]
    by_cases h2 : p.2 = 1
    · rw [beq_iff_eq.2 h2, decide_eq_true ⟨h1, h2⟩]
    · rw [beq_eq_false_iff_ne.2 h2, decide_eq_false (fun h => h2 h.2)]
  · rw [beq_eq_false_iff_ne.2 h1, if_neg (by decide), decide_eq_false (fun h => h1 h.1)]
theorem tIsU (s : List UInt8) (x1 : List UInt8) (hs : s.length < 9000000000000) : ∀ n k, k ≤ s.length → s.length - k ≤ n → ∃ out, utf_all_1_L1 s k = some (out, ()) ∧ utf_Is_L1 x1 out = some (if utfF n (s.drop k) = true then .inl () else .inr ()) := by
  intro n
  induction n with
  | zero =>
    intro k h1 h2
    rw [utf_all_1_L1, ltI, decide_eq_false (by omega : ¬ k < s.length)]
    refine ⟨[], rfl, ?_⟩
    rw [utf_Is_L1]; rfl
  | succ n ih =>
    intro k h1 h2
    by_cases hk : k < s.length
    · have hne : s.drop k ≠ [] := by rw [dropE hk]; exact List.cons_ne_nil _ _
      obtain ⟨z1, z2⟩ := nextP_size _ hne
      rw [List.length_drop] at z2
      have ew : wr ((k : Int) + ((nextP (s.drop k)).2 : Int)) = ((k + (nextP (s.drop k)).2 : Nat) : Int) := by rw [wr_in (by omega) (by omega)]; rfl
      obtain ⟨out, o1, o2⟩ := ih (k + (nextP (s.drop k)).2) (by omega) (by omega)
      rw [utf_all_1_L1, ltI, decide_eq_true hk, tNext s k hk (by omega)]
      simp only [if_true, bind_some']
      rw [ew, o1]
      refine ⟨_, rfl, ?_⟩
      rw [utf_Is_L1]
      simp only
      rw [badI (nextP (s.drop k)), o2, utfF_step n _ hne, List.drop_drop]
      by_cases hb : (nextP (s.drop k)).1 = 65533 ∧ (nextP (s.drop k)).2 = 1
      · rw [decide_eq_true hb, if_pos hb]; rfl
      · rw [decide_eq_false hb, if_neg hb]; rfl
    · rw [utf_all_1_L1, ltI, decide_eq_false hk, List.drop_eq_nil_of_le (by omega)]
      refine ⟨[], rfl, ?_⟩
      rw [utf_Is_L1]; rfl
theorem tUtf (s : List UInt8) (hs : s.length < 9000000000000) : utf_Is s = some (utfF s.length s) := by
  obtain ⟨out, o1, o2⟩ := tIsU s s hs s.length 0 (by omega) (by omega)
  rw [List.drop_zero] at o2
  rw [utf_Is, utf_all]
  simp only [bind_some']
  rw [utf_all_1, show (0 : Int) = ((0 : Nat) : Int) from rfl, o1]
  simp only [bind_some', List.append_nil, o2]
  cases utfF s.length s <;> rfl
theorem eqC (c : UInt8) (k : Nat) (hk : k < 256) : ((c.toNat : Int) == (k : Int)) = decide (c = UInt8.ofNat k) := by
  rw [eqN]
  by_cases h : c.toNat = k
  · rw [beq_iff_eq.2 h, decide_eq_true]
    apply UInt8.toNat_inj.1
    rw [h, UInt8.toNat_ofNat', Nat.mod_eq_of_lt hk]
  · rw [beq_eq_false_iff_ne.2 h, decide_eq_false]
    intro e; apply h; rw [e, UInt8.toNat_ofNat', Nat.mod_eq_of_lt hk]
end Go.Proofs.YtagokkpnfceidaaDoor
end
