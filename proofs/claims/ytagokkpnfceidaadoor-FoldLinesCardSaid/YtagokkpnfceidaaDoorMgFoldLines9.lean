/- The proof's texts, part 9 of 10: the walks by a logic in which data are by value, the plain laws, and at the end the law, for every input. -/
import Derived.Test.YtagokkpnfceidaaDoorMgFoldLines8

section
set_option linter.unusedVariables false
set_option linter.unusedSimpArgs false
namespace Go.Proofs.YtagokkpnfceidaaDoor
open Go.RowKit

set_option maxRecDepth 100000 in
set_option maxHeartbeats 4000000 in
theorem fold_words_1_L1_grp : ∀ (x2 : (List (List UInt8))), (∀ (v16 : Int) (o4 : (List (List UInt8)) × (Unit)), fold_words_1_L1 x2 v16 = some o4 → ∀ (gxs gp gpost gq3 : List (List V)), gxs = gp ++ (o4.1.map e_fold_words_1 ++ gpost) → gxs = gq3 ++ gpost → TL (0, 1) Tryd.prog 57 fold_words_1_L1_c (Qs (0, 1) 57 gxs (JP1 (0, 1) 57 o4.2 (.exit 0) (fold_words_1_L1_x0 x2 gxs gq3))) (fold_words_1_L1_st x2 v16 gxs gp)) := by
  intro x2
  refine fold_words_1_L1.partial_correctness x2 _ ?_
  intro fold_words_1_L1' ih_fold_words_1_L1 v16 o4 h
  intro gxs gp gpost gq3 hx hq
  refine TL.round (bwp_sound mixed tbOk (lv := fold_words_1_lv) _ _ _ ?_)
  refine st_test h (fun hb h => ?_) (fun hb h => ?_)
  · refine st_idx (l := x2) (c := cStr) (c' := cStr) h (fun _ => rfl) (fun _ => rfl) (by decide) (fun x5 hi h => ?_)
    refine st_yld (c := e_fold_words_1) h hx (.refl _) (by exact rfl) (by exact rfl) (fun _ h hx => ?_) ?_
    · refine bF ?_
      refine TL.le (τ := fold_words_1_L1_st x2 (wr (v16 + 1)) gxs (gp ++ [e_fold_words_1 x5])) ?_ ((ih_fold_words_1_L1 (wr (v16 + 1)) _ h) _ _ _ _ hx hq)
      exact Le.tow 0 1 rfl (.cons rfl (.refl _) (.cons rfl (.refl _) (.cons rfl (.refl _) (.cons rfl (.refl _) (.nil))))) (.refl _) rfl
    · refine bT ?_
      exact .inr ⟨rfl, _, (Le.env0 _).trans (Le.tow 0 1 rfl .nil (.refl _) rfl), rfl, rfl, rfl⟩
  · exact .inl (JP1.a (sndI h) (Le.tow 0 1 rfl (.nil) (.refl _) (liveQ h hx hq rfl)))
theorem fold_words_1_L1_ok : ∀ (x2 : (List (List UInt8))) (v16 : Int) (o4 : (List (List UInt8)) × (Unit)), fold_words_1_L1 x2 v16 = some o4 → ∀ (gxs gp gpost gq3 : List (List V)), gxs = gp ++ (o4.1.map e_fold_words_1 ++ gpost) → gxs = gq3 ++ gpost → TL (0, 1) Tryd.prog 57 fold_words_1_L1_c (Qs (0, 1) 57 gxs (JP1 (0, 1) 57 o4.2 (.exit 0) (fold_words_1_L1_x0 x2 gxs gq3))) (fold_words_1_L1_st x2 v16 gxs gp) := fun x2 v16 o4 h => (fold_words_1_L1_grp x2) v16 o4 h
noncomputable def utf_Bytes (p0 : Int) : Option ((List UInt8)) :=
  need (0 ≤ p0) >>= fun _ =>
  need (runeN p0.toNat = true) >>= fun _ =>
  some (ubN p0.toNat)
set_option maxRecDepth 100000 in
set_option maxHeartbeats 4000000 in
theorem utf_Bytes_ok : ∀ (p0 : Int) (o : (List UInt8)), utf_Bytes p0 = some o → PCall Tryd.prog 56 [nV .i32 p0] (t_utf_Bytes o) := by
  intro p0 o h
  unfold utf_Bytes at h
  obtain ⟨h1, h⟩ := need_some h
  obtain ⟨h2, h⟩ := need_some h
  cases h
  exact bytes_ok _ h1 h2
noncomputable def fold_words_1_L2 (x6 : (List Int)) (v5 : (List UInt8)) (v28 : Int) : Option ((List (List UInt8)) × ((List UInt8))) :=
  if (decide (v28 < (x6.length : Int))) then
    idx x6 v28 >>= fun x9 =>
    utf_Bytes x9 >>= fun x10 =>
    ( if (decide ((x10.length : Int) > (wr (45 - (v5.length : Int))))) then
        b64_Encode v5 >>= fun x13 =>
        need ([61, 63, 85, 84, 70, 45, 56, 63, 66, 63].length + x13.length ≤ 9223372036854775807) >>= fun _ =>
        need (([61, 63, 85, 84, 70, 45, 56, 63, 66, 63] ++ x13).length + [63, 61].length ≤ 9223372036854775807) >>= fun _ =>
        ( some ([], [])) >>= fun q => some ((([61, 63, 85, 84, 70, 45, 56, 63, 66, 63] ++ x13) ++ [63, 61]) :: q.1, q.2)
      else
        some ([], v5) : Option ((List (List UInt8)) × ((List UInt8)))) >>= fun o12 => (
      need (o12.2.length + x10.length ≤ 9223372036854775807) >>= fun _ =>
      fold_words_1_L2 x6 (o12.2 ++ x10) (wr (v28 + 1))) >>= fun q => some (o12.1 ++ q.1, q.2)
  else
    some ([], v5)
  partial_fixpoint
set_option maxRecDepth 100000 in
set_option maxHeartbeats 4000000 in
theorem fold_words_1_L2_grp : ∀ (x6 : (List Int)), (∀ (v5 : (List UInt8)) (v28 : Int) (o8 : (List (List UInt8)) × ((List UInt8))), fold_words_1_L2 x6 v5 v28 = some o8 → ∀ (gxs gp gpost gq7 : List (List V)), gxs = gp ++ (o8.1.map e_fold_words_1 ++ gpost) → gxs = gq7 ++ gpost → TL (0, 1) Tryd.prog 57 fold_words_1_L2_c (Qs (0, 1) 57 gxs (JP1 (0, 1) 57 o8.2 (.exit 2) (fold_words_1_L2_x0 x6 gxs gq7))) (fold_words_1_L2_st x6 v5 v28 gxs gp)) := by
  intro x6
  refine fold_words_1_L2.partial_correctness x6 _ ?_
  intro fold_words_1_L2' ih_fold_words_1_L2 v5 v28 o8 h
  intro gxs gp gpost gq7 hx hq
  refine TL.round (bwp_sound mixed tbOk (lv := fold_words_1_lv) _ _ _ ?_)
  refine st_test h (fun hb h => ?_) (fun hb h => ?_)
  · refine st_idx (l := x6) (c := (cNum .i32)) (c' := (cNum .i32)) h (fun _ => rfl) (fun _ => rfl) (by decide) (fun x9 hi h => ?_)
    refine st_call [nV .i32 x9] t_utf_Bytes h (fun x10 hy => (utf_Bytes_ok x9 x10 hy)) (fun x10 hy h => ?_)
    refine st_bindI h hx (fun o12 lgq11 gq11 ho hk hxa hjgq11 => ?_)
    refine Exists.intro (Qs _ _ gxs (JP1 _ _ o12.2 .normal (fold_words_1_J0_0 x6 v28 x10 gxs gq11))) (And.intro ?_ (joinS (join1 ?_) ?_))
    · have h := ho
      have hx := hxa
      refine vrfl ?_
      refine vrfl ?_
      refine st_test h (fun hb h => ?_) (fun hb h => ?_)
      · refine st_call [sV v5] t_b64_Encode h (fun x13 hy => (b64_Encode_ok v5 x13 hy)) (fun x13 hy h => ?_)
        refine st_need h (fun h => ?_)
        refine st_need h (fun h => ?_)
        refine st_yld (c := e_fold_words_1) h hx (.refl _) (by exact rfl) (by exact rfl) (fun _ h hx => ?_) ?_
        · refine bF ?_
          exact .inl (JP1.a (sndI h) (Le.tow 0 1 rfl (.cons rfl (.refl _) (.cons rfl (.refl _) (.cons rfl (.refl _) (.cons rfl (.refl _) (.cons rfl (.refl _) (.cons rfl (.refl _) (.nil))))))) (.refl _) (liveQ h hx hjgq11 rfl)))
        · refine bT ?_
          exact .inr ⟨rfl, _, (Le.env0 _).trans (Le.tow 0 1 rfl .nil (.refl _) rfl), rfl, rfl, rfl⟩
      · exact .inl (JP1.a (sndI h) (Le.tow 0 1 rfl (.cons rfl (.refl _) (.cons rfl (.refl _) (.cons rfl (.refl _) (.cons rfl (.refl _) (.cons rfl (.refl _) (.cons rfl (.refl _) (.nil))))))) (.refl _) (liveQ h hx hjgq11 rfl)))
    · have h := hk
      have hx := hjgq11
      refine st_need h (fun h => ?_)
      refine TL.le (τ := fold_words_1_L2_st x6 (o12.2 ++ x10) (wr (v28 + 1)) gxs gq11) ?_ ((ih_fold_words_1_L2 (o12.2 ++ x10) (wr (v28 + 1)) _ h) _ _ _ _ hx hq)
      exact Le.tow 0 1 rfl (.cons rfl (.refl _) (.cons rfl (.refl _) (.cons rfl (.refl _) (.cons rfl (.refl _) (.cons rfl (.refl _) (.nil)))))) (.refl _) rfl
    · exact fun s1 h1 h2 hs => .inr ⟨rfl, s1, .refl _ _ _, h1, h2, hs⟩
  · exact .inl (JP1.a (sndI h) (Le.tow 0 1 rfl (.cons rfl (.refl _) (.cons rfl (.refl _) (.nil))) (.refl _) (liveQ h hx hq rfl)))
theorem fold_words_1_L2_ok : ∀ (x6 : (List Int)) (v5 : (List UInt8)) (v28 : Int) (o8 : (List (List UInt8)) × ((List UInt8))), fold_words_1_L2 x6 v5 v28 = some o8 → ∀ (gxs gp gpost gq7 : List (List V)), gxs = gp ++ (o8.1.map e_fold_words_1 ++ gpost) → gxs = gq7 ++ gpost → TL (0, 1) Tryd.prog 57 fold_words_1_L2_c (Qs (0, 1) 57 gxs (JP1 (0, 1) 57 o8.2 (.exit 2) (fold_words_1_L2_x0 x6 gxs gq7))) (fold_words_1_L2_st x6 v5 v28 gxs gp) := fun x6 v5 v28 o8 h => (fold_words_1_L2_grp x6) v5 v28 o8 h
noncomputable def utf_Runes_L1 (x1 : (List UInt8)) (l4 : (List (Int × Int))) (h0_0 : (List Int)) : Option ((List Int)) :=
  match l4 with
  | [] =>
    some h0_0
  | x2 :: r3 =>
    appL 4 h0_0 [x2.1] >>= fun x7 =>
    utf_Runes_L1 x1 r3 x7
  partial_fixpoint
set_option maxRecDepth 100000 in
set_option maxHeartbeats 4000000 in
theorem utf_Runes_L1_grp : ∀ (x1 : (List UInt8)), (∀ (l4 : (List (Int × Int))) (h0_0 : (List Int)) (o6 : (List Int)), utf_Runes_L1 x1 l4 h0_0 = some o6 → RL 1 1 Tryd.prog 14 (rgP utf_Runes_L1_c) (rgA utf_Runes_L1_c) (rgB utf_Runes_L1_c) (utf_Runes_L1_st x1 h0_0).env (JP1 (0, 0) 14 o6 .normal (utf_Runes_L1_x0 x1)) (l4.map e_utf_all_1) (utf_Runes_L1_st x1 h0_0).s) := by
  intro x1
  refine utf_Runes_L1.partial_correctness x1 _ ?_
  intro utf_Runes_L1' ih_utf_Runes_L1 l4 h0_0 o6 h
  cases l4 with
  | nil =>
    refine rl_nil ?_
    exact JP1.a h (Le.tow 1 1 rfl (.cons rfl (.refl _) (.cons rfl (.refl _) (.nil))) (.refl _) rfl)
  | cons x2 r3 =>
    refine rl_cons (bwp_sound mixed tbOk (lv := utf_Runes_lv) _ _ _ ?_)
    refine And.intro rfl (bwp_sound mixed tbOk (lv := utf_Runes_lv) _ _ _ ?_)
    refine st_appo (a := h0_0) (b := [x2.1]) (c := (cNum .i32)) h (.refl _) (fun _ => rfl) rfl (fun x7 hi h => ?_)
    exact Exists.intro (utf_Runes_L1_st x1 x7).s (And.intro (Le.tow 1 1 rfl (.nil) (.refl _) rfl) (And.intro rfl (And.intro rfl ((ih_utf_Runes_L1 r3 x7 _ h)))))
theorem utf_Runes_L1_ok : ∀ (x1 : (List UInt8)) (l4 : (List (Int × Int))) (h0_0 : (List Int)) (o6 : (List Int)), utf_Runes_L1 x1 l4 h0_0 = some o6 → RL 1 1 Tryd.prog 14 (rgP utf_Runes_L1_c) (rgA utf_Runes_L1_c) (rgB utf_Runes_L1_c) (utf_Runes_L1_st x1 h0_0).env (JP1 (0, 0) 14 o6 .normal (utf_Runes_L1_x0 x1)) (l4.map e_utf_all_1) (utf_Runes_L1_st x1 h0_0).s := fun x1 l4 h0_0 o6 h => (utf_Runes_L1_grp x1) l4 h0_0 o6 h
noncomputable def utf_Runes (p0 : (List UInt8)) : Option ((List Int)) :=
  utf_all p0 >>= fun x1 =>
  utf_all_1 x1 >>= fun y5 =>
  (utf_Runes_L1 x1 y5.1 []) >>= fun o6 =>
  some o6
set_option maxRecDepth 100000 in
set_option maxHeartbeats 4000000 in
theorem utf_Runes_ok : ∀ (p0 : (List UInt8)) (o : (List Int)), utf_Runes p0 = some o → PCall Tryd.prog 55 [sV p0] (t_utf_Runes o) := by
  intro p0 o h
  unfold utf_Runes at h
  refine PCall.ofB mixed tbOk utf_Runes_lv Tryd.func55 rfl (by kernel_rfl) (Nat.le_of_ble_eq_true rfl) ?_
  refine st_call [sV p0] t_utf_all h (fun x1 hy => (utf_all_ok p0 x1 hy)) (fun x1 hy h => ?_)
  refine st_bind h (fun y5 hy5 h => ?_)
  refine st_bind h (fun o6 ho hk => ?_)
  refine Exists.intro (JP1 _ _ o6 .normal (utf_Runes_L1_x0 x1)) (And.intro (T_le (τ := utf_Runes_L1_st x1 []) ?_ (T_range (g := 117) (cap := [.ep [sV x1]]) rfl ((utf_all_1_ok x1 y5 hy5) _ rfl) (mapSize fun _ => rfl) rfl (Nat.le_of_ble_eq_true rfl) (Nat.le_of_ble_eq_true rfl) (utf_Runes_L1_ok x1 y5.1 [] o6 ho))) (join1 ?_))
  · exact (Le.ownH 0 0 21 1 rfl rfl sizeNil).trans (Le.tow 1 1 rfl (.cons rfl (.refl _) (.cons rfl (.refl _) (.nil))) (.refl _) rfl)
  have h := hk
  refine st_ret (t := t_utf_Runes) h ?_
  exact .refl _
noncomputable def fold_words_1 (p0 : (List UInt8)) : Option ((List (List UInt8)) × Unit) :=
  if (p0 == []) then
    some ([], ())
  else
    fold_Plain p0 >>= fun x1 =>
    if x1 then
      octet_Cut p0 32 >>= fun x2 =>
      ( fold_words_1_L1 x2 0) >>= fun o4 => (
        some ([], ())) >>= fun q => some (o4.1 ++ q.1, q.2)
    else
      utf_Runes p0 >>= fun x6 =>
      ( fold_words_1_L2 x6 [] 0) >>= fun o8 => (
        b64_Encode o8.2 >>= fun x14 =>
        need ([61, 63, 85, 84, 70, 45, 56, 63, 66, 63].length + x14.length ≤ 9223372036854775807) >>= fun _ =>
        need (([61, 63, 85, 84, 70, 45, 56, 63, 66, 63] ++ x14).length + [63, 61].length ≤ 9223372036854775807) >>= fun _ =>
        ( some ([], ())) >>= fun q => some ((([61, 63, 85, 84, 70, 45, 56, 63, 66, 63] ++ x14) ++ [63, 61]) :: q.1, q.2)) >>= fun q => some (o8.1 ++ q.1, q.2)
set_option maxRecDepth 100000 in
set_option maxHeartbeats 4000000 in
theorem fold_words_1_ok : ∀ (p0 : (List UInt8)) (o : (List (List UInt8)) × Unit), fold_words_1 p0 = some o → ∀ gxs : List (List V), gxs = o.1.map e_fold_words_1 → IterOK Tryd.prog 54 [.ep [sV p0]] gxs := by
  intro p0 o h
  unfold fold_words_1 at h
  intro gxs hg
  have hx : gxs = [] ++ (o.1.map e_fold_words_1 ++ []) := by simp [hg]
  refine IterOK.ofB mixed tbOk fold_words_1_lv Tryd.func54 rfl (by kernel_rfl) (Nat.le_of_ble_eq_true rfl) rfl ?_
  refine st_test h (fun hb h => ?_) (fun hb h => ?_)
  · exact st_iend h hx (.inr rfl) rfl
  · refine st_call [sV p0] t_fold_Plain h (fun x1 hy => (fold_Plain_ok p0 x1 hy)) (fun x1 hy h => ?_)
    refine st_test h (fun hb h => ?_) (fun hb h => ?_)
    · refine st_call [sV p0, nV .u8 32] t_octet_Cut h (fun x2 hy => (octet_Cut_ok p0 32 x2 hy)) (fun x2 hy h => ?_)
      refine view (lenMap _ _) rfl ?_
      refine st_bindI h hx (fun o4 lgq3 gq3 ho hk hxa hjgq3 => ?_)
      refine Exists.intro (Qs _ _ gxs (JP1 _ _ o4.2 (.exit 0) (fold_words_1_L1_x0 x2 gxs gq3))) (And.intro (T_le (τ := fold_words_1_L1_st x2 0 gxs ([] : List (List V))) ?_ (TL.loop ((fold_words_1_L1_ok x2 0 o4 ho) _ _ _ _ hxa hjgq3))) (joinS (join1 ?_) ?_))
      · exact Le.tow 0 1 rfl (.cons rfl (.refl _) (.cons rfl (.refl _) (.cons rfl (.refl _) (.cons rfl (.refl _) (.nil))))) (.refl _) rfl
      · have h := hk
        have hx := hjgq3
        exact st_iend h hx (.inr rfl) rfl
      · exact fun s1 h1 h2 hs => st_istop (.inr rfl) hs
    · refine st_call [sV p0] t_utf_Runes h (fun x6 hy => (utf_Runes_ok p0 x6 hy)) (fun x6 hy h => ?_)
      refine view (lenMap _ _) rfl ?_
      refine st_bindI h hx (fun o8 lgq7 gq7 ho hk hxa hjgq7 => ?_)
      refine Exists.intro (Qs _ _ gxs (JP1 _ _ o8.2 (.exit 2) (fold_words_1_L2_x0 x6 gxs gq7))) (And.intro (T_le (τ := fold_words_1_L2_st x6 [] 0 gxs ([] : List (List V))) ?_ (TL.loop ((fold_words_1_L2_ok x6 [] 0 o8 ho) _ _ _ _ hxa hjgq7))) (joinS (join1 ?_) ?_))
      · exact Le.tow 0 1 rfl (.cons rfl (.refl _) (.cons rfl (.refl _) (.cons rfl (.refl _) (.cons rfl (.refl _) (.cons rfl (.refl _) (.nil)))))) (.refl _) rfl
      · have h := hk
        have hx := hjgq7
        refine st_call [sV o8.2] t_b64_Encode h (fun x14 hy => (b64_Encode_ok o8.2 x14 hy)) (fun x14 hy h => ?_)
        refine st_need h (fun h => ?_)
        refine st_need h (fun h => ?_)
        refine st_yld (c := e_fold_words_1) h hx (.refl _) (by exact rfl) (by exact rfl) (fun _ h hx => ?_) ?_
        · exact st_iend h hx (.inl rfl) rfl
        · exact st_istop (.inl rfl) rfl
      · exact fun s1 h1 h2 hs => st_istop (.inr rfl) hs
noncomputable def strings_Builder_String_3 (h0_0 : Bool) (h0_1 : (List Int)) (h0_2 : Int) : Option ((List UInt8)) :=
  b2s h0_1
set_option maxRecDepth 100000 in
set_option maxHeartbeats 4000000 in
theorem strings_Builder_String_3_ok : ∀ (h0_0 : Bool) (h0_1 : (List Int)) (h0_2 : Int) (o : (List UInt8)), strings_Builder_String_3 h0_0 h0_1 h0_2 = some o → CallOK Tryd.prog 29 [.ptr 0 0] ⟨[[.sp Tryd.prog 44 h0_0 0 0, .own 0 5 1 (h0_1.map (cNum .u8)), .p (iV h0_2)]], [(h0_1.map (cNum .u8)).length]⟩ (t_strings_Builder_String_3 o) ⟨[[.sp Tryd.prog 44 h0_0 0 0, .p (.sl false (h0_1.map (cNum .u8))), .p (iV h0_2)]], [((h0_1.map (cNum .u8)).length + 1)]⟩ := by
  intro h0_0 h0_1 h0_2 o h
  unfold strings_Builder_String_3 at h
  exact builderString_ok [[.sp Tryd.prog 44 h0_0 0 0, .own 0 5 1 (h0_1.map (cNum .u8)), .p (iV h0_2)]] [(h0_1.map (cNum .u8)).length] 0 0 [.sp Tryd.prog 44 h0_0 0 0, .own 0 5 1 (h0_1.map (cNum .u8)), .p (iV h0_2)] (h0_1.map (cNum .u8)) rfl rfl rfl (b2s_cells h)
noncomputable def strings_Builder_copyCheck (h0_0 : Bool) (h0_2 : Int) : Option (Bool) :=
  some true
set_option maxRecDepth 100000 in
set_option maxHeartbeats 4000000 in
theorem strings_Builder_copyCheck_ok : ∀ (h0_0 : Bool) (h0_2 : Int) (o : Bool), strings_Builder_copyCheck h0_0 h0_2 = some o → CallOK Tryd.prog 53 [.ptr 0 0] ⟨[[.sp Tryd.prog 44 h0_0 0 0, .p (.sl true []), .p (iV h0_2)]], []⟩ (t_strings_Builder_copyCheck o) ⟨[[.sp Tryd.prog 44 o 0 0, .p (.sl true []), .p (iV h0_2)]], []⟩ := by
  intro h0_0 h0_2 o h
  unfold strings_Builder_copyCheck at h
  cases h
  exact copyCheck_ok [[.sp Tryd.prog 44 h0_0 0 0, .p (.sl true []), .p (iV h0_2)]] _ 0 [.sp Tryd.prog 44 h0_0 0 0, .p (.sl true []), .p (iV h0_2)] rfl rfl
noncomputable def strings_Builder_WriteString (p1 : (List UInt8)) (h0_0 : Bool) (h0_2 : Int) : Option (Int × Unit × Bool × (List Int)) :=
  strings_Builder_copyCheck h0_0 h0_2 >>= fun x1 =>
  appL 1 [] (s2b p1) >>= fun x2 =>
  some ((p1.length : Int), (), x1, x2)
set_option maxRecDepth 100000 in
set_option maxHeartbeats 4000000 in
theorem strings_Builder_WriteString_ok : ∀ (p1 : (List UInt8)) (h0_0 : Bool) (h0_2 : Int) (o : Int × Unit × Bool × (List Int)), strings_Builder_WriteString p1 h0_0 h0_2 = some o → CallOK Tryd.prog 26 [.ptr 0 0, .p (sV p1)] ⟨[[.sp Tryd.prog 44 h0_0 0 0, .p (.sl true []), .p (iV h0_2)]], []⟩ (t_strings_Builder_WriteString o) ⟨[[.sp Tryd.prog 44 o.2.2.1 0 0, .own 0 5 1 (o.2.2.2.map (cNum .u8)), .p (iV h0_2)]], [(o.2.2.2.map (cNum .u8)).length]⟩ := by
  intro p1 h0_0 h0_2 o h
  unfold strings_Builder_WriteString at h
  refine CallOK.ofB mixed tbOk strings_Builder_WriteString_lv Tryd.func26 rfl (by kernel_rfl) (Nat.le_of_ble_eq_true rfl) rfl rfl rfl ?_
  refine st_callc _ _ h (fun x1 hy => ((strings_Builder_copyCheck_ok h0_0 h0_2 x1 hy).fr [0] [] rfl rfl rfl)) (fun x1 hy h => ?_)
  refine st_appsf (a := ([] : List Int)) (b := p1) h (.inl rfl) (fun x2 hi h => ?_)
  refine vrfl ?_
  refine Exists.intro _ (And.intro (Le.refl _ _ _) ?_)
  exact st_retc (t := t_strings_Builder_WriteString) (ss := fun o => ⟨[[.sp Tryd.prog 44 o.2.2.1 0 0, .own 0 5 1 (o.2.2.2.map (cNum .u8)), .p (iV h0_2)]], [(o.2.2.2.map (cNum .u8)).length]⟩) h ⟨[0], rfl, .refl _, .refl _, rfl⟩
noncomputable def fold_Write (p0 : (List UInt8)) (p1 : (List UInt8)) : Option ((List UInt8) × Int) :=
  fold_name p0 >>= fun x1 =>
  if (!x1) then
    some ([], 1)
  else
    need (p0.length + [58].length ≤ 9223372036854775807) >>= fun _ =>
    strings_Builder_WriteString (p0 ++ [58]) false (wr ((p0.length : Int) + 1)) >>= fun x2 =>
    fold_words p1 >>= fun x3 =>
    fold_words_1 x3 >>= fun y7 =>
    (fold_Write_L1 x3 y7.1 x2.2.2.1 x2.2.2.2 (wr ((p0.length : Int) + 1))) >>= fun o8 =>
    strings_Builder_WriteString_3 [13, 10] o8.1 o8.2.1 o8.2.2 >>= fun x10 =>
    strings_Builder_String_3 x10.2.2.1 x10.2.2.2 o8.2.2 >>= fun x11 =>
    some (x11, 0)
set_option maxRecDepth 100000 in
set_option maxHeartbeats 4000000 in
theorem fold_Write_ok : ∀ (p0 : (List UInt8)) (p1 : (List UInt8)) (o : (List UInt8) × Int), fold_Write p0 p1 = some o → PCall Tryd.prog 10 [sV p0, sV p1] (t_fold_Write o) := by
  intro p0 p1 o h
  unfold fold_Write at h
  refine PCall.ofB mixed tbOk fold_Write_lv Tryd.func10 rfl (by kernel_rfl) (Nat.le_of_ble_eq_true rfl) ?_
  refine st_call [sV p0] t_fold_name h (fun x1 hy => (fold_name_ok p0 x1 hy)) (fun x1 hy h => ?_)
  refine st_test h (fun hb h => ?_) (fun hb h => ?_)
  · refine st_ret (t := t_fold_Write) h ?_
    exact .refl _
  · refine vrfl ?_
    refine st_need h (fun h => ?_)
    refine st_callc _ _ h (fun x2 hy => ((strings_Builder_WriteString_ok (p0 ++ [58]) false (wr ((p0.length : Int) + 1)) x2 hy).fr [0] [] rfl rfl rfl)) (fun x2 hy h => ?_)
    refine st_call [sV p1] t_fold_words h (fun x3 hy => (fold_words_ok p1 x3 hy)) (fun x3 hy h => ?_)
    refine st_bind h (fun y7 hy7 h => ?_)
    refine st_bind h (fun o8 ho hk => ?_)
    refine Exists.intro (JP1 _ _ o8 .normal (fold_Write_L1_x0 x3)) (And.intro (T_le (τ := fold_Write_L1_st x3 x2.2.2.1 x2.2.2.2 (wr ((p0.length : Int) + 1))) ?_ (T_range (g := 54) (cap := [.ep [sV x3]]) rfl ((fold_words_1_ok x3 y7 hy7) _ rfl) (mapSize fun _ => rfl) rfl (Nat.le_of_ble_eq_true rfl) (Nat.le_of_ble_eq_true rfl) (fold_Write_L1_ok x3 y7.1 x2.2.2.1 x2.2.2.2 (wr ((p0.length : Int) + 1)) o8 ho))) (join1 ?_))
    · exact Le.tow 1 1 rfl (.cons rfl (.refl _) (.cons rfl (.refl _) (.nil))) (.refl _) rfl
    have h := hk
    refine st_callc _ _ h (fun x10 hy => ((strings_Builder_WriteString_3_ok [13, 10] o8.1 o8.2.1 o8.2.2 x10 hy).fr [0] [0] rfl rfl rfl)) (fun x10 hy h => ?_)
    refine st_callc _ _ h (fun x11 hy => ((strings_Builder_String_3_ok x10.2.2.1 x10.2.2.2 o8.2.2 x11 hy).fr [0] [0] rfl rfl rfl)) (fun x11 hy h => ?_)
    refine st_ret (t := t_fold_Write) h ?_
    exact .refl _
noncomputable def nunciolaw09_awake : Option (Bool) :=
  fold_Write [83, 117, 98, 106, 101, 99, 116] [97, 32, 98] >>= fun x1 =>
  fold_Write [83, 117, 98, 106, 101, 99, 116] [10] >>= fun x2 =>
  fold_Read x2.1 >>= fun x3 =>
  ( if (x1.1 == [83, 117, 98, 106, 101, 99, 116, 58, 32, 97, 32, 98, 13, 10]) then
      if (x1.2 == 0) then
        if (x2.1 == [83, 117, 98, 106, 101, 99, 116, 58, 32, 61, 63, 85, 84, 70, 45, 56, 63, 66, 63, 67, 103, 61, 61, 63, 61, 13, 10]) then
          if (x2.2 == 0) then
            if (x3.1 == [83, 117, 98, 106, 101, 99, 116]) then
              if (x3.2.1 == [10]) then
                some (x3.2.2 == 0)
              else
                some false
            else
              some false
          else
            some false
        else
          some false
      else
        some false
    else
      some false : Option (Bool)) >>= fun o4 =>
  some o4
set_option maxRecDepth 100000 in
set_option maxHeartbeats 4000000 in
theorem nunciolaw09_awake_ok : ∀ (o : Bool), nunciolaw09_awake  = some o → PCall Tryd.prog 14 [] (t_nunciolaw09_awake o) := by
  intro o h
  unfold nunciolaw09_awake at h
  refine PCall.ofB mixed tbOk nunciolaw09_awake_lv Tryd.func14 rfl (by kernel_rfl) (Nat.le_of_ble_eq_true rfl) ?_
  refine st_call [sV [83, 117, 98, 106, 101, 99, 116], sV [97, 32, 98]] t_fold_Write h (fun x1 hy => (fold_Write_ok [83, 117, 98, 106, 101, 99, 116] [97, 32, 98] x1 hy)) (fun x1 hy h => ?_)
  refine st_call [sV [83, 117, 98, 106, 101, 99, 116], sV [10]] t_fold_Write h (fun x2 hy => (fold_Write_ok [83, 117, 98, 106, 101, 99, 116] [10] x2 hy)) (fun x2 hy h => ?_)
  refine st_call [sV x2.1] t_fold_Read h (fun x3 hy => (fold_Read_ok x2.1 x3 hy)) (fun x3 hy h => ?_)
  refine st_bind h (fun o4 ho hk => ?_)
  refine Exists.intro (JP1 _ _ o4 .normal (nunciolaw09_awake_J0_0 )) (And.intro ?_ (join1 ?_))
  · have h := ho
    refine st_test h (fun hb h => ?_) (fun hb h => ?_)
    · refine st_test h (fun hb h => ?_) (fun hb h => ?_)
      · refine st_test h (fun hb h => ?_) (fun hb h => ?_)
        · refine st_test h (fun hb h => ?_) (fun hb h => ?_)
          · refine st_test h (fun hb h => ?_) (fun hb h => ?_)
            · refine st_test h (fun hb h => ?_) (fun hb h => ?_)
              · refine JP1.a h ?_
                exact Le.tow 0 0 rfl (.cons rfl (.refl _) (.nil)) (.refl _) rfl
              · refine JP1.a h ?_
                exact Le.tow 0 0 rfl (.cons rfl (.refl _) (.nil)) (.refl _) rfl
            · refine bF ?_
              refine JP1.a h ?_
              exact Le.tow 0 0 rfl (.cons rfl (.refl _) (.nil)) (.refl _) rfl
          · refine bF ?_
            refine bF ?_
            refine JP1.a h ?_
            exact Le.tow 0 0 rfl (.cons rfl (.refl _) (.nil)) (.refl _) rfl
        · refine bF ?_
          refine bF ?_
          refine bF ?_
          refine JP1.a h ?_
          exact Le.tow 0 0 rfl (.cons rfl (.refl _) (.nil)) (.refl _) rfl
      · refine bF ?_
        refine bF ?_
        refine bF ?_
        refine bF ?_
        refine JP1.a h ?_
        exact Le.tow 0 0 rfl (.cons rfl (.refl _) (.nil)) (.refl _) rfl
    · refine bF ?_
      refine bF ?_
      refine bF ?_
      refine bF ?_
      refine bF ?_
      refine JP1.a h ?_
      exact Le.tow 0 0 rfl (.cons rfl (.refl _) (.nil)) (.refl _) rfl
  · have h := hk
    refine st_ret (t := t_nunciolaw09_awake) h ?_
    exact .refl _
noncomputable def nunciolaw09_few (p0 : (List UInt8)) : Option ((List UInt8)) :=
  cutL p0 0 (if 400 < (p0.length : Int) then 400 else (p0.length : Int)) >>= fun x1 =>
  some x1
set_option maxRecDepth 100000 in
set_option maxHeartbeats 4000000 in
theorem nunciolaw09_few_ok : ∀ (p0 : (List UInt8)) (o : (List UInt8)), nunciolaw09_few p0 = some o → PCall Tryd.prog 9 [sV p0] (t_nunciolaw09_few o) := by
  intro p0 o h
  unfold nunciolaw09_few at h
  refine PCall.ofB mixed tbOk nunciolaw09_few_lv Tryd.func9 rfl (by kernel_rfl) (Nat.le_of_ble_eq_true rfl) ?_
  refine vrfl ?_
  refine st_cuts none (some (if 400 < (p0.length : Int) then 400 else (p0.length : Int))) h (fun x1 hi h => ?_)
  refine st_ret (t := t_nunciolaw09_few) h ?_
  exact .refl _
noncomputable def nunciolaw09_FoldLines_L1 (x3 : (List UInt8) × Int) (v8 : Int) (v7 : Int) : Option (Int ⊕ Unit) :=
  if (decide (v8 < (x3.1.length : Int))) then
    ( idx x3.1 v8 >>= fun x9 =>
      if ((x9.toNat : Int) == 13) then
        some true
      else
        idx x3.1 v8 >>= fun x10 =>
        some ((x10.toNat : Int) == 10) : Option (Bool)) >>= fun o8 =>
    if o8 then
      ( idx x3.1 v8 >>= fun x12 =>
        if ((x12.toNat : Int) == 10) then
          some true
        else
          if (v8 == (wr ((x3.1.length : Int) - 1))) then
            some true
          else
            idx x3.1 (wr (v8 + 1)) >>= fun x13 =>
            if ((x13.toNat : Int) != 10) then
              some true
            else
              if (decide ((wr (v8 + 2)) < (x3.1.length : Int))) then
                idx x3.1 (wr (v8 + 2)) >>= fun x14 =>
                some ((x14.toNat : Int) != 32)
              else
                some false : Option (Bool)) >>= fun o11 =>
      if o11 then
        some (.inr ())
      else
        nunciolaw09_FoldLines_L1 x3 (wr ((wr (v8 + 1)) + 1)) 0
    else
      ( if (decide ((wr (v7 + 1)) > 76)) then
          some true
        else
          idx x3.1 v8 >>= fun x16 =>
          if (decide ((x16.toNat : Int) < 32)) then
            some true
          else
            idx x3.1 v8 >>= fun x17 =>
            some (decide ((x17.toNat : Int) > 126)) : Option (Bool)) >>= fun o15 =>
      if o15 then
        some (.inr ())
      else
        nunciolaw09_FoldLines_L1 x3 (wr (v8 + 1)) (wr (v7 + 1))
  else
    some (.inl v7)
  partial_fixpoint
set_option maxRecDepth 100000 in
set_option maxHeartbeats 4000000 in
theorem nunciolaw09_FoldLines_L1_grp : ∀ (x3 : (List UInt8) × Int), (∀ (v8 : Int) (v7 : Int) (o5 : Int ⊕ Unit), nunciolaw09_FoldLines_L1 x3 v8 v7 = some o5 → TL (0, 0) Tryd.prog 91 nunciolaw09_FoldLines_L1_c (JP2 (0, 0) 91 o5 (.exit 0) (nunciolaw09_FoldLines_L1_x0 x3) .ret (nunciolaw09_FoldLines_L1_x1 x3)) (nunciolaw09_FoldLines_L1_st x3 v8 v7)) := by
  intro x3
  refine nunciolaw09_FoldLines_L1.partial_correctness x3 _ ?_
  intro nunciolaw09_FoldLines_L1' ih_nunciolaw09_FoldLines_L1 v8 v7 o5 h
  refine TL.round (bwp_sound mixed tbOk (lv := nunciolaw09_FoldLines_lv) _ _ _ ?_)
  refine vrfl ?_
  refine st_test h (fun hb h => ?_) (fun hb h => ?_)
  · refine st_bind h (fun o8 ho hk => ?_)
    refine Exists.intro (JP1 _ _ o8 .normal (nunciolaw09_FoldLines_J0_0 x3 v8 v7)) (And.intro ?_ (join1 ?_))
    · have h := ho
      refine st_sidx h (fun x9 hi h => ?_)
      refine st_test h (fun hb h => ?_) (fun hb h => ?_)
      · refine JP1.a h ?_
        exact Le.tow 0 0 rfl (.cons rfl (.refl _) (.cons rfl (.refl _) (.cons rfl (.refl _) (.cons rfl (.refl _) (.nil))))) (.refl _) rfl
      · refine st_sidx h (fun x10 hi h => ?_)
        refine JP1.a h ?_
        exact Le.tow 0 0 rfl (.cons rfl (.refl _) (.cons rfl (.refl _) (.cons rfl (.refl _) (.cons rfl (.refl _) (.nil))))) (.refl _) rfl
    · have h := hk
      refine st_test h (fun hb h => ?_) (fun hb h => ?_)
      · refine st_bind h (fun o11 ho hk => ?_)
        refine Exists.intro (JP1 _ _ o11 .normal (nunciolaw09_FoldLines_J1_0 x3 v8)) (And.intro ?_ (join1 ?_))
        · have h := ho
          refine st_sidx h (fun x12 hi h => ?_)
          refine st_test h (fun hb h => ?_) (fun hb h => ?_)
          · refine bT ?_
            refine bT ?_
            refine JP1.a h ?_
            exact Le.tow 0 0 rfl (.cons rfl (.refl _) (.cons rfl (.refl _) (.cons rfl (.refl _) (.nil)))) (.refl _) rfl
          · refine vrfl ?_
            refine st_test h (fun hb h => ?_) (fun hb h => ?_)
            · refine bT ?_
              refine JP1.a h ?_
              exact Le.tow 0 0 rfl (.cons rfl (.refl _) (.cons rfl (.refl _) (.cons rfl (.refl _) (.nil)))) (.refl _) rfl
            · refine st_sidx h (fun x13 hi h => ?_)
              refine st_test h (fun hb h => ?_) (fun hb h => ?_)
              · refine JP1.a h ?_
                exact Le.tow 0 0 rfl (.cons rfl (.refl _) (.cons rfl (.refl _) (.cons rfl (.refl _) (.nil)))) (.refl _) rfl
              · refine vrfl ?_
                refine st_test h (fun hb h => ?_) (fun hb h => ?_)
                · refine st_sidx h (fun x14 hi h => ?_)
                  refine JP1.a h ?_
                  exact Le.tow 0 0 rfl (.cons rfl (.refl _) (.cons rfl (.refl _) (.cons rfl (.refl _) (.nil)))) (.refl _) rfl
                · refine JP1.a h ?_
                  exact Le.tow 0 0 rfl (.cons rfl (.refl _) (.cons rfl (.refl _) (.cons rfl (.refl _) (.nil)))) (.refl _) rfl
        · have h := hk
          refine st_test h (fun hb h => ?_) (fun hb h => ?_)
          · exact JP2.b h (Le.tow 0 0 rfl (.cons rfl (.refl _) (.nil)) (.refl _) rfl)
          · refine TL.le (τ := nunciolaw09_FoldLines_L1_st x3 (wr ((wr (v8 + 1)) + 1)) 0) ?_ ((ih_nunciolaw09_FoldLines_L1 (wr ((wr (v8 + 1)) + 1)) 0 _ h))
            exact Le.tow 0 0 rfl (.cons rfl (.refl _) (.cons rfl (.refl _) (.cons rfl (.refl _) (.nil)))) (.refl _) rfl
      · refine st_bind h (fun o15 ho hk => ?_)
        refine Exists.intro (JP1 _ _ o15 .normal (nunciolaw09_FoldLines_J2_0 x3 v8 v7)) (And.intro ?_ (join1 ?_))
        · have h := ho
          refine st_test h (fun hb h => ?_) (fun hb h => ?_)
          · refine bT ?_
            refine JP1.a h ?_
            exact Le.tow 0 0 rfl (.cons rfl (.refl _) (.cons rfl (.refl _) (.cons rfl (.refl _) (.cons rfl (.refl _) (.nil))))) (.refl _) rfl
          · refine st_sidx h (fun x16 hi h => ?_)
            refine st_test h (fun hb h => ?_) (fun hb h => ?_)
            · refine JP1.a h ?_
              exact Le.tow 0 0 rfl (.cons rfl (.refl _) (.cons rfl (.refl _) (.cons rfl (.refl _) (.cons rfl (.refl _) (.nil))))) (.refl _) rfl
            · refine st_sidx h (fun x17 hi h => ?_)
              refine JP1.a h ?_
              exact Le.tow 0 0 rfl (.cons rfl (.refl _) (.cons rfl (.refl _) (.cons rfl (.refl _) (.cons rfl (.refl _) (.nil))))) (.refl _) rfl
        · have h := hk
          refine st_test h (fun hb h => ?_) (fun hb h => ?_)
          · exact JP2.b h (Le.tow 0 0 rfl (.cons rfl (.refl _) (.nil)) (.refl _) rfl)
          · refine TL.le (τ := nunciolaw09_FoldLines_L1_st x3 (wr (v8 + 1)) (wr (v7 + 1))) ?_ ((ih_nunciolaw09_FoldLines_L1 (wr (v8 + 1)) (wr (v7 + 1)) _ h))
            exact Le.tow 0 0 rfl (.cons rfl (.refl _) (.cons rfl (.refl _) (.cons rfl (.refl _) (.nil)))) (.refl _) rfl
  · exact JP2.a h (Le.tow 0 0 rfl (.cons rfl (.refl _) (.nil)) (.refl _) rfl)
theorem nunciolaw09_FoldLines_L1_ok : ∀ (x3 : (List UInt8) × Int) (v8 : Int) (v7 : Int) (o5 : Int ⊕ Unit), nunciolaw09_FoldLines_L1 x3 v8 v7 = some o5 → TL (0, 0) Tryd.prog 91 nunciolaw09_FoldLines_L1_c (JP2 (0, 0) 91 o5 (.exit 0) (nunciolaw09_FoldLines_L1_x0 x3) .ret (nunciolaw09_FoldLines_L1_x1 x3)) (nunciolaw09_FoldLines_L1_st x3 v8 v7) := fun x3 v8 v7 o5 h => (nunciolaw09_FoldLines_L1_grp x3) v8 v7 o5 h
noncomputable def nunciolaw09_FoldLines (p0 : (List UInt8)) (p1 : (List UInt8)) : Option (Bool) :=
  nunciolaw09_few p0 >>= fun x1 =>
  nunciolaw09_few p1 >>= fun x2 =>
  fold_Write x1 x2 >>= fun x3 =>
  if (x3.2 != 0) then
    nunciolaw09_awake >>= fun x4 =>
    some x4
  else
    (nunciolaw09_FoldLines_L1 x3 0 0) >>= fun o5 =>
    match o5 with
    | .inl y6 =>
      ( if (y6 == 0) then
          nunciolaw09_awake >>= fun x19 =>
          some x19
        else
          some false : Option (Bool)) >>= fun o18 =>
      some o18
    | .inr y7 =>
      some false
set_option maxRecDepth 100000 in
set_option maxHeartbeats 4000000 in
theorem nunciolaw09_FoldLines_ok : ∀ (p0 : (List UInt8)) (p1 : (List UInt8)) (o : Bool), nunciolaw09_FoldLines p0 p1 = some o → PCall Tryd.prog 6 [sV p0, sV p1] (t_nunciolaw09_FoldLines o) := by
  intro p0 p1 o h
  unfold nunciolaw09_FoldLines at h
  refine PCall.ofB mixed tbOk nunciolaw09_FoldLines_lv Tryd.func6 rfl (by kernel_rfl) (Nat.le_of_ble_eq_true rfl) ?_
  refine st_call [sV p0] t_nunciolaw09_few h (fun x1 hy => (nunciolaw09_few_ok p0 x1 hy)) (fun x1 hy h => ?_)
  refine st_call [sV p1] t_nunciolaw09_few h (fun x2 hy => (nunciolaw09_few_ok p1 x2 hy)) (fun x2 hy h => ?_)
  refine st_call [sV x1, sV x2] t_fold_Write h (fun x3 hy => (fold_Write_ok x1 x2 x3 hy)) (fun x3 hy h => ?_)
  refine st_test h (fun hb h => ?_) (fun hb h => ?_)
  · refine st_call [] t_nunciolaw09_awake h (fun x4 hy => (nunciolaw09_awake_ok x4 hy)) (fun x4 hy h => ?_)
    refine st_ret (t := t_nunciolaw09_FoldLines) h ?_
    exact .refl _
  · refine st_bind h (fun o5 ho hk => ?_)
    refine Exists.intro (JP2 _ _ o5 (.exit 0) (nunciolaw09_FoldLines_L1_x0 x3) .ret (nunciolaw09_FoldLines_L1_x1 x3)) (And.intro (T_le (τ := nunciolaw09_FoldLines_L1_st x3 0 0) ?_ (TL.loop (nunciolaw09_FoldLines_L1_ok x3 0 0 o5 ho))) (join2 (fun y6 hy => ?_) (fun y7 hy => ?_)))
    · exact Le.tow 0 0 rfl (.cons rfl (.refl _) (.cons rfl (.refl _) (.cons rfl (.refl _) (.nil)))) (.refl _) rfl
    · have h := (by rw [hy] at hk; exact hk)
      refine st_bind h (fun o18 ho hk => ?_)
      refine Exists.intro (JP1 _ _ o18 .normal (nunciolaw09_FoldLines_J3_0 )) (And.intro ?_ (join1 ?_))
      · have h := ho
        refine st_test h (fun hb h => ?_) (fun hb h => ?_)
        · refine st_call [] t_nunciolaw09_awake h (fun x19 hy => (nunciolaw09_awake_ok x19 hy)) (fun x19 hy h => ?_)
          refine JP1.a h ?_
          exact Le.tow 0 0 rfl (.cons rfl (.refl _) (.nil)) (.refl _) rfl
        · refine JP1.a h ?_
          exact Le.tow 0 0 rfl (.cons rfl (.refl _) (.nil)) (.refl _) rfl
      · have h := hk
        refine st_ret (t := t_nunciolaw09_FoldLines) h ?_
        exact .refl _
    · have h := (by rw [hy] at hk; exact hk)
      refine st_ret (t := t_nunciolaw09_FoldLines) h ?_
      exact .refl _
end Go.Proofs.YtagokkpnfceidaaDoor
end

section
namespace Go.Proofs.YtagokkpnfceidaaDoor
open Go.RowKit

def cutS (b : UInt8) : List UInt8 → List (List UInt8)
  | [] => [[]]
  | a :: t => if a == b then [] :: cutS b t else match cutS b t with
    | x :: r => (a :: x) :: r
    | [] => [[a]]
theorem cutS_ne (b : UInt8) : ∀ l, cutS b l ≠ []
  | [] => by simp [cutS]
  | a :: t => by
    rw [cutS]
    split
    · simp
    · split <;> simp
theorem cutS_free (b : UInt8) : ∀ p : List UInt8, b ∉ p → cutS b p = [p]
  | [], _ => rfl
  | a :: t, h => by
    simp only [List.mem_cons, not_or] at h
    have ha : ¬ (a == b) = true := by simpa using fun e : a = b => h.1 e.symm
    rw [cutS, if_neg ha, cutS_free b t h.2]
theorem cutS_at (b : UInt8) (t : List UInt8) : ∀ p : List UInt8, b ∉ p → cutS b (p ++ b :: t) = p :: cutS b t
  | [], _ => by simp [cutS]
  | a :: p, h => by
    simp only [List.mem_cons, not_or] at h
    have ha : ¬ (a == b) = true := by simpa using fun e : a = b => h.1 e.symm
    rw [List.cons_append, cutS, if_neg ha, cutS_at b t p h.2]
theorem cutS_len (b : UInt8) (l : List UInt8) : (cutS b l).length ≤ l.length + 1 ∧ ∀ x ∈ cutS b l, x.length ≤ l.length := by
  induction l with
  | nil => simp [cutS]
  | cons a t ih =>
    obtain ⟨h1, h2⟩ := ih
    rw [cutS]
    split
    · refine ⟨by simp; omega, fun x hx => ?_⟩
      rcases List.mem_cons.1 hx with rfl | hx
      · simp
      · have := h2 x hx; rw [List.length_cons]; omega
    · split
      · rename_i x r hc
        rw [hc] at h1 h2
        refine ⟨by simp at h1 ⊢; omega, fun y hy => ?_⟩
        rcases List.mem_cons.1 hy with rfl | hy
        · have := h2 x (by simp); simp; omega
        · have := h2 y (by simp [hy]); rw [List.length_cons]; omega
      · exact ⟨by simp, fun y hy => by simp at hy; subst hy; simp⟩
theorem index_one (b : UInt8) : ∀ l : List UInt8, (Lib.index l [b] = -1 ∧ b ∉ l) ∨ ∃ p t, l = p ++ b :: t ∧ b ∉ p ∧ Lib.index l [b] = (p.length : Int)
  | [] => .inl ⟨rfl, by simp⟩
  | a :: l => by
    by_cases h : (b == a) = true
    · have e : b = a := by simpa using h
      subst e
      exact .inr ⟨[], l, rfl, by simp, by unfold Lib.index; rw [if_pos (by simp [List.isPrefixOf])]; rfl⟩
    · have hp : [b].isPrefixOf (a :: l) = false := by simp [List.isPrefixOf]; simpa using h
      have hne : b ≠ a := by simpa using h
      rcases index_one b l with ⟨h1, h2⟩ | ⟨p, t, h1, h2, h3⟩
      · refine .inl ⟨by unfold Lib.index; rw [hp, h1]; rfl, by simp [h2, hne]⟩
      · refine .inr ⟨a :: p, t, by rw [h1]; rfl, by simp [h2, hne], ?_⟩
        unfold Lib.index
        rw [hp, h3]
        have : ((p.length : Int) == -1) = false := by rw [beq_eq_false_iff_ne]; omega
        simp [this]
theorem beqB (x : UInt8) (b : UInt8) : ((x.toNat : Int) == (b.toNat : Int)) = (x == b) := by
  rw [Bool.eq_iff_iff, beq_iff_eq, beq_iff_eq]
  constructor
  · intro h; exact UInt8.toNat_inj.1 (by omega)
  · intro h; rw [h]
end Go.Proofs.YtagokkpnfceidaaDoor
end

section
namespace Go.Proofs.YtagokkpnfceidaaDoor
open Go.RowKit

def contB (c : UInt8) : Bool := decide (128 ≤ c.toNat) && decide (c.toNat < 192)
def runeB (n : Nat) : Bool := decide (n ≤ 1114111) && !(decide (55296 ≤ n) && decide (n ≤ 57343))
/-- The rune at the head, and how many bytes it has. -/
def nextC (c : UInt8) (r : List UInt8) : Nat × Nat :=
    if c.toNat < 128 then (c.toNat, 1)
    else if 192 ≤ c.toNat ∧ c.toNat < 224 then
      match r with
      | c1 :: _ => if contB c1 = true ∧ 128 ≤ (c.toNat - 192) * 64 + (c1.toNat - 128) then ((c.toNat - 192) * 64 + (c1.toNat - 128), 2) else (65533, 1)
      | _ => (65533, 1)
    else if 224 ≤ c.toNat ∧ c.toNat < 240 then
      match r with
      | c1 :: c2 :: _ => if contB c1 = true ∧ contB c2 = true ∧ 2048 ≤ ((c.toNat - 224) * 64 + (c1.toNat - 128)) * 64 + (c2.toNat - 128) ∧ runeB (((c.toNat - 224) * 64 + (c1.toNat - 128)) * 64 + (c2.toNat - 128)) = true then (((c.toNat - 224) * 64 + (c1.toNat - 128)) * 64 + (c2.toNat - 128), 3) else (65533, 1)
      | _ => (65533, 1)
    else if 240 ≤ c.toNat ∧ c.toNat < 248 then
      match r with
      | c1 :: c2 :: c3 :: _ => if contB c1 = true ∧ contB c2 = true ∧ contB c3 = true ∧ 65536 ≤ (((c.toNat - 240) * 64 + (c1.toNat - 128)) * 64 + (c2.toNat - 128)) * 64 + (c3.toNat - 128) ∧ runeB ((((c.toNat - 240) * 64 + (c1.toNat - 128)) * 64 + (c2.toNat - 128)) * 64 + (c3.toNat - 128)) = true then ((((c.toNat - 240) * 64 + (c1.toNat - 128)) * 64 + (c2.toNat - 128)) * 64 + (c3.toNat - 128), 4) else (65533, 1)
      | _ => (65533, 1)
    else (65533, 1)
def nextP : List UInt8 → Nat × Nat
  | [] => (0, 0)
  | c :: r => nextC c r
theorem i32_in {n : Int} (h1 : -2147483648 ≤ n) (h2 : n ≤ 2147483647) : IntKind.i32.wrap n = n := by
  simp [IntKind.wrap, IntKind.bits, IntKind.signed]
  omega
theorem and63 : ∀ c : Fin 256, bits .and .u8 ((c.1 : Nat) : Int) 63 = ((c.1 % 64 : Nat) : Int) := by decide +kernel
theorem and192 : ∀ c : Fin 256, (bits .and .u8 ((c.1 : Nat) : Int) 192 != 128) = !(decide (128 ≤ c.1) && decide (c.1 < 192)) := by decide +kernel
theorem and31 : ∀ c : Fin 256, bits .and .u8 ((c.1 : Nat) : Int) 31 = ((c.1 % 32 : Nat) : Int) := by decide +kernel
theorem and15 : ∀ c : Fin 256, bits .and .u8 ((c.1 : Nat) : Int) 15 = ((c.1 % 16 : Nat) : Int) := by decide +kernel
theorem and7 : ∀ c : Fin 256, bits .and .u8 ((c.1 : Nat) : Int) 7 = ((c.1 % 8 : Nat) : Int) := by decide +kernel
theorem or64 (a b : Nat) (ha : a < 1000000) (hb : b < 64) : bits .or .i32 (IntKind.i32.wrap ((a : Int) * 2 ^ (min (6 : Int).toNat (IntKind.i32.bits)))) (IntKind.i32.wrap (b : Int)) = ((a * 64 + b : Nat) : Int) := by
  have e1 : IntKind.i32.wrap ((a : Int) * 2 ^ (min (6 : Int).toNat (IntKind.i32.bits))) = ((a * 64 : Nat) : Int) := by
    have : (min (6 : Int).toNat (IntKind.i32.bits)) = 6 := rfl
    rw [this, i32_in (by omega) (by omega)]; omega
  rw [e1, i32_in (by omega) (by omega)]
  have e2 : (2 : Nat) ^ 6 * a + b = 2 ^ 6 * a ||| b := Nat.two_pow_add_eq_or_of_lt (by omega) a
  have e3 : a * 64 ||| b = a * 64 + b := by
    have : (2 : Nat) ^ 6 * a = a * 64 := by omega
    rw [this] at e2; omega
  show IntKind.i32.wrap ((BitVec.ofInt 32 ((a * 64 : Nat) : Int) ||| BitVec.ofInt 32 (b : Int)).toNat : Int) = _
  rw [BitVec.toNat_or, BitVec.ofInt_natCast, BitVec.ofInt_natCast, BitVec.toNat_ofNat, BitVec.toNat_ofNat, Nat.mod_eq_of_lt (by omega), Nat.mod_eq_of_lt (by omega), e3, i32_in (by omega) (by omega)]
theorem b63 (c : UInt8) : bits .and .u8 (c.toNat : Int) 63 = ((c.toNat % 64 : Nat) : Int) := and63 ⟨c.toNat, c.toNat_lt⟩
theorem b192 (c : UInt8) : (bits .and .u8 (c.toNat : Int) 192 != 128) = !contB c := and192 ⟨c.toNat, c.toNat_lt⟩
theorem b31 (c : UInt8) : bits .and .u8 (c.toNat : Int) 31 = ((c.toNat % 32 : Nat) : Int) := and31 ⟨c.toNat, c.toNat_lt⟩
theorem b15 (c : UInt8) : bits .and .u8 (c.toNat : Int) 15 = ((c.toNat % 16 : Nat) : Int) := and15 ⟨c.toNat, c.toNat_lt⟩
theorem b7 (c : UInt8) : bits .and .u8 (c.toNat : Int) 7 = ((c.toNat % 8 : Nat) : Int) := and7 ⟨c.toNat, c.toNat_lt⟩
theorem cont_mod {c : UInt8} (h : contB c = true) : c.toNat % 64 = c.toNat - 128 := by
  unfold contB at h
  simp at h
  omega
/-- What follows: so many bytes. -/
def tailP : Nat → List UInt8 → Nat → Option Nat
  | 0, _, v => some v
  | _ + 1, [], _ => none
  | m + 1, c :: r, v => if contB c = true then tailP m r (v * 64 + (c.toNat - 128)) else none
set_option maxRecDepth 20000 in
theorem tTailL (l : List UInt8) (m : Nat) (hm : m ≤ l.length) (hm3 : m ≤ 3) : ∀ (d k v : Nat), k + d = m → ((k = 0 → v < 64) ∧ (k ≤ 1 → v < 4096) ∧ (k ≤ 2 → v < 262144)) →
    utf_tail_L1 l m v k = some (match tailP d (l.drop k) v with | some n => .inl (n : Int) | none => .inr ()) := by
  intro d
  induction d with
  | zero =>
    intro k v hk _
    rw [utf_tail_L1, ltI, decide_eq_false (by omega : ¬ k < m)]
    rfl
  | succ d ih =>
    intro k v hk hv
    have hkl : k < l.length := by omega
    have : decide ((k : Int) < (m : Int)) = true := decide_eq_true (by omega)
    rw [utf_tail_L1]
    simp only [this, if_true, idx_nat, getE hkl, bind_some', b192, b63]
    rw [or64 v _ (by omega) (Nat.mod_lt _ (by omega)), wr_succ (by omega), dropE hkl]
    unfold tailP
    cases hc : contB l[k] with
    | false => rfl
    | true =>
      rw [cont_mod hc]
      have hlt : l[k].toNat - 128 < 64 := by unfold contB at hc; simp at hc; omega
      have hv2 : (k + 1 = 0 → v * 64 + (l[k].toNat - 128) < 64) ∧ (k + 1 ≤ 1 → v * 64 + (l[k].toNat - 128) < 4096) ∧ (k + 1 ≤ 2 → v * 64 + (l[k].toNat - 128) < 262144) := by omega
      simp only [Bool.not_true, Bool.false_eq_true, if_false, if_true]
      exact ih (k + 1) _ (by omega) hv2
theorem tTail (l : List UInt8) (m v : Nat) (hm3 : m ≤ 3) (hv : v < 64) : utf_tail l v m = some (match (if l.length < m then none else tailP m l v) with | some n => ((n : Int), true) | none => (0, false)) := by
  rw [utf_tail, ltI]
  by_cases h : l.length < m
  · rw [decide_eq_true h, if_pos h]; rfl
  · rw [decide_eq_false h, if_neg h]
    have := tTailL l m (by omega) hm3 m 0 v (by omega) (by omega)
    rw [List.drop_zero] at this
    rw [show (0 : Int) = ((0 : Nat) : Int) from rfl, this]
    cases tailP m l v <;> rfl
theorem tIsR (n : Nat) : utf_is (n : Int) = some (runeB n) := by
  have a : decide ((n : Int) ≥ 0) = true := decide_eq_true (by omega)
  have b : decide ((n : Int) ≤ 1114111) = decide (n ≤ 1114111) := by
    by_cases h : n ≤ 1114111
    · rw [decide_eq_true h, decide_eq_true (by omega)]
    · rw [decide_eq_false h, decide_eq_false (by omega)]
  rw [utf_is, a, b, runeB]
  by_cases h1 : n < 55296
  · rw [decide_eq_true (show (n : Int) < 55296 by omega), decide_eq_true (show n ≤ 1114111 by omega), decide_eq_false (show ¬ 55296 ≤ n by omega)]; rfl
  · rw [decide_eq_false (show ¬ (n : Int) < 55296 by omega), decide_eq_true (show 55296 ≤ n by omega)]
    by_cases h2 : n ≤ 57343
    · rw [decide_eq_false (show ¬ (n : Int) > 57343 by omega), decide_eq_true h2, decide_eq_true (show n ≤ 1114111 by omega)]; rfl
    · rw [decide_eq_true (show (n : Int) > 57343 by omega), decide_eq_false h2]
      cases decide (n ≤ 1114111) <;> rfl
theorem ltC (c : UInt8) (k : Nat) : decide ((c.toNat : Int) < (k : Int)) = decide (c.toNat < k) := ltI _ _
theorem geC (c : UInt8) (k : Nat) : decide ((c.toNat : Int) ≥ (k : Int)) = decide (k ≤ c.toNat) := by
  by_cases h : k ≤ c.toNat
  · rw [decide_eq_true h, decide_eq_true (by omega)]
  · rw [decide_eq_false h, decide_eq_false (by omega)]
/-- What Next makes of a tail. -/
def endP (o : Option Nat) (least m : Nat) : Nat × Nat := match o with
  | some n => if least ≤ n ∧ runeB n = true then (n, m + 1) else (65533, 1)
  | none => (65533, 1)
set_option maxRecDepth 20000 in
theorem tNext (s : List UInt8) (k : Nat) (hk : k < s.length) (hs : s.length < 9223372036854775807) : utf_Next s k = some (((nextP (s.drop k)).1 : Int), ((nextP (s.drop k)).2 : Int)) := by
  have d1 : decide ((k : Int) < 0) = false := decide_eq_false (by omega)
  have d2 : decide ((k : Int) ≥ (s.length : Int)) = false := decide_eq_false (by omega)
  have hc := s[k].toNat_lt
  have hr : cutL s (wr ((k : Int) + 1)) (s.length : Int) = some (s.drop (k + 1)) := by
    rw [wr_succ (by omega), cutL_ok (by omega) (by omega) (by omega)]
    simp
  rw [utf_Next, d1, d2, hr, dropE hk]
  have l128 := ltC s[k] 128
  have g192 := geC s[k] 192
  have l224 := ltC s[k] 224
  have g224 := geC s[k] 224
  have l240 := ltC s[k] 240
  have g240 := geC s[k] 240
  have l248 := ltC s[k] 248
  have b1 : ∀ a b : Bool, (if a = true then some b else some false : Option Bool) = some (a && b) := fun a b => by cases a <;> rfl
  simp only [Bool.false_eq_true, if_false, bind_some', idx_nat, getE hk]
  rw [show (128 : Int) = ((128 : Nat) : Int) from rfl, show (192 : Int) = ((192 : Nat) : Int) from rfl, show (224 : Int) = ((224 : Nat) : Int) from rfl, show (240 : Int) = ((240 : Nat) : Int) from rfl, show (248 : Int) = ((248 : Nat) : Int) from rfl, l128, g192, l224, g224, l240, g240, l248]
  simp only [b1, bind_some']
  rw [nextP]
  unfold nextC
  have fin : ∀ (v least m : Nat), m ≤ 3 → v < 64 → (utf_tail (s.drop (k + 1)) (v : Int) (m : Int) >>= fun x10 =>
      (if (!x10.2) = true then some true else if decide (x10.1 < (least : Int)) = true then some true else utf_is x10.1 >>= fun x12 => some (!x12) : Option Bool) >>= fun o11 =>
      if o11 = true then some ((65533 : Int), (1 : Int)) else some (x10.1, wr ((m : Int) + 1))) =
      some (((endP (if (s.drop (k + 1)).length < m then none else tailP m (s.drop (k + 1)) v) least m).1 : Int), ((endP (if (s.drop (k + 1)).length < m then none else tailP m (s.drop (k + 1)) v) least m).2 : Int)) := fun v least m hm hv => by
    rw [tTail _ m v hm hv]
    cases (if (s.drop (k + 1)).length < m then none else tailP m (s.drop (k + 1)) v) with
    | none => rfl
    | some n =>
      simp only [bind_some', Bool.not_true, Bool.false_eq_true, if_false, ltI, tIsR, endP]
      by_cases h1 : n < least
      · rw [decide_eq_true h1, if_neg (fun h => absurd h.1 (by omega) : ¬ (least ≤ n ∧ runeB n = true))]; rfl
      · rw [decide_eq_false h1]
        cases hrn : runeB n with
        | true => rw [if_pos (⟨by omega, rfl⟩ : least ≤ n ∧ true = true), wr_succ (by omega)]; rfl
        | false => rw [if_neg (fun h => by cases h.2 : ¬ (least ≤ n ∧ false = true))]; rfl
  by_cases h1 : s[k].toNat < 128
  · rw [decide_eq_true h1, if_pos h1]
    simp only [if_true, bind_some']
    rw [i32_in (by omega) (by omega)]; rfl
  rw [decide_eq_false h1, if_neg h1]
  simp only [Bool.false_eq_true, if_false]
  have cc : ∀ c : UInt8, contB c = true → c.toNat - 128 < 64 := fun c h => by unfold contB at h; simp at h; omega
  by_cases h2 : 192 ≤ s[k].toNat ∧ s[k].toNat < 224
  · rw [decide_eq_true h2.1, decide_eq_true h2.2, if_pos h2, b31]
    simp only [Bool.and_true, if_true, bind_some']
    rw [i32_in (by omega) (by omega)]
    have f := fin (s[k].toNat % 32) 128 1 (by omega) (by omega)
    rw [show ((1 : Nat) : Int) = 1 from rfl] at f
    rw [f]
    have e : s[k].toNat % 32 = s[k].toNat - 192 := by omega
    rw [e]
    cases s.drop (k + 1) with
    | nil => rfl
    | cons c1 r1 =>
      simp only [List.length_cons, if_neg (by omega : ¬ r1.length + 1 < 1), tailP]
      cases h : contB c1 with
      | false => rfl
      | true =>
        have := cc c1 h
        have hr : runeB ((s[k].toNat - 192) * 64 + (c1.toNat - 128)) = true := by unfold runeB; rw [decide_eq_true (by omega), decide_eq_false (by omega)]; rfl
        simp only [if_true, endP, hr, and_true, true_and]
  rw [if_neg h2]
  have d2 : (decide (192 ≤ s[k].toNat) && decide (s[k].toNat < 224)) = false := by
    rw [Bool.and_eq_false_iff]
    by_cases h : 192 ≤ s[k].toNat
    · exact .inr (decide_eq_false (by omega))
    · exact .inl (decide_eq_false h)
  rw [d2]
  simp only [Bool.false_eq_true, if_false]
  by_cases h3 : 224 ≤ s[k].toNat ∧ s[k].toNat < 240
  · rw [decide_eq_true h3.1, decide_eq_true h3.2, if_pos h3, b15]
    simp only [Bool.and_true, if_true, bind_some']
    rw [i32_in (by omega) (by omega)]
    have f := fin (s[k].toNat % 16) 2048 2 (by omega) (by omega)
    rw [show ((2 : Nat) : Int) = 2 from rfl, show ((2048 : Nat) : Int) = 2048 from rfl] at f
    rw [f]
    have e : s[k].toNat % 16 = s[k].toNat - 224 := by omega
    rw [e]
    match s.drop (k + 1) with
    | [] => rfl
    | [c1] => rfl
    | c1 :: c2 :: r1 =>
      simp only [List.length_cons, if_neg (by omega : ¬ r1.length + 1 + 1 < 2), tailP]
      cases h : contB c1 with
      | false => rfl
      | true =>
        cases h' : contB c2 with
        | false => simp [endP]
        | true => simp only [if_true, endP, true_and]
  rw [if_neg h3]
  have d3 : (decide (224 ≤ s[k].toNat) && decide (s[k].toNat < 240)) = false := by
    rw [Bool.and_eq_false_iff]
    by_cases h : 224 ≤ s[k].toNat
    · exact .inr (decide_eq_false (by omega))
    · exact .inl (decide_eq_false h)
  rw [d3]
  simp only [Bool.false_eq_true, if_false]
  by_cases h4 : 240 ≤ s[k].toNat ∧ s[k].toNat < 248
  · rw [decide_eq_true h4.1, decide_eq_true h4.2, if_pos h4, b7]
    simp only [Bool.and_true, if_true, bind_some']
    rw [i32_in (by omega) (by omega)]
    have f := fin (s[k].toNat % 8) 65536 3 (by omega) (by omega)
    rw [show ((3 : Nat) : Int) = 3 from rfl, show ((65536 : Nat) : Int) = 65536 from rfl] at f
    rw [f]
    have e : s[k].toNat % 8 = s[k].toNat - 240 := by omega
    rw [e]
    match s.drop (k + 1) with
    | [] => rfl
    | [c1] => rfl
    | [c1, c2] => rfl
    | c1 :: c2 :: c3 :: r1 =>
      simp only [List.length_cons, if_neg (by omega : ¬ r1.length + 1 + 1 + 1 < 3), tailP]
      cases h : contB c1 with
      | false => rfl
      | true =>
        cases h' : contB c2 with
        | false => simp [endP]
        | true =>
          cases h'' : contB c3 with
          | false => simp [endP]
          | true => simp only [if_true, endP, true_and]
  rw [if_neg h4]
  have d4 : (decide (240 ≤ s[k].toNat) && decide (s[k].toNat < 248)) = false := by
    rw [Bool.and_eq_false_iff]
    by_cases h : 240 ≤ s[k].toNat
    · exact .inr (decide_eq_false (by omega))
    · exact .inl (decide_eq_false h)
  rw [d4]
  rfl
theorem nextP_size (l : List UInt8) (h : l ≠ []) : 1 ≤ (nextP l).2 ∧ (nextP l).2 ≤ l.length := by
  cases l with
  | nil => exact absurd rfl h
  | cons c r =>
    rw [nextP]
    unfold nextC
    split
    · simp
    · split
      · split
        · split <;> simp
        · simp
      · split
        · split
          · split <;> simp
          · simp
        · split
          · split
            · split <;> simp
            · simp
          · simp
end Go.Proofs.YtagokkpnfceidaaDoor
end

section
namespace Go.Proofs.YtagokkpnfceidaaDoor
open Go.RowKit

def bytesN (n : Nat) : List Nat :=
  if n < 128 then [n] else if n < 2048 then [192 + n / 64, 128 + n % 64] else if n < 65536 then [224 + n / 4096, 128 + n / 64 % 64, 128 + n % 64] else [240 + n / 262144, 128 + n / 4096 % 64, 128 + n / 64 % 64, 128 + n % 64]
theorem b2s_ok (l : List Nat) (h : ∀ x ∈ l, x < 256) : b2s (l.map fun x : Nat => (x : Int)) = some (l.map UInt8.ofNat) := by
  unfold b2s
  rw [if_pos]
  · rw [List.map_map]; rfl
  · rw [List.all_eq_true]
    intro n hn
    obtain ⟨x, hx, rfl⟩ := List.mem_map.1 hn
    have := h x hx
    simp only [decide_eq_true_eq]
    omega
theorem td (n k : Nat) : ((n : Int).tdiv (k : Int)) = ((n / k : Nat) : Int) := by rw [Int.tdiv_eq_ediv_of_nonneg (by omega)]; rfl
theorem tm (n k : Nat) : ((n : Int).tmod (k : Int)) = ((n % k : Nat) : Int) := by rw [Int.tmod_eq_emod_of_nonneg (by omega)]; rfl
end Go.Proofs.YtagokkpnfceidaaDoor
end

section
namespace Go.Proofs.YtagokkpnfceidaaDoor
open Go.RowKit

theorem leN (n k : Nat) : decide ((n : Int) ≤ (k : Int)) = decide (n ≤ k) := by
  by_cases h : n ≤ k
  · rw [decide_eq_true h, decide_eq_true (by omega : (n : Int) ≤ k)]
  · rw [decide_eq_false h, decide_eq_false (by omega)]
theorem eqN (n k : Nat) : ((n : Int) == (k : Int)) = (n == k) := by
  by_cases h : n = k
  · subst h; simp
  · rw [beq_eq_false_iff_ne.2 h, beq_eq_false_iff_ne.2 (by omega)]
theorem s2b_app (a b : List UInt8) : s2b (a ++ b) = s2b a ++ s2b b := by simp [s2b]
theorem s2b_len (a : List UInt8) : (s2b a).length = a.length := by simp [s2b]
theorem b2s_s2b (l : List UInt8) : b2s (s2b l) = some l := by
  unfold b2s s2b
  rw [if_pos]
  · rw [List.map_map]
    congr 1
    have : ∀ c : UInt8, ((fun n : Int => UInt8.ofNat n.toNat) ∘ fun c : UInt8 => (c.toNat : Int)) c = c := fun c => by simp
    rw [show ((fun n : Int => UInt8.ofNat n.toNat) ∘ fun c : UInt8 => (c.toNat : Int)) = id from funext this, List.map_id]
  · rw [List.all_eq_true]
    intro n hn
    obtain ⟨c, -, rfl⟩ := List.mem_map.1 hn
    have := c.toNat_lt
    simp only [decide_eq_true_eq]
    omega
end Go.Proofs.YtagokkpnfceidaaDoor
end

section
namespace Go.Proofs.YtagokkpnfceidaaDoor
open Go.RowKit

def utfF : Nat → List UInt8 → Bool
  | 0, _ => true
  | n + 1, l => match l with
    | [] => true
    | _ :: _ => if (nextP l).1 = 65533 ∧ (nextP l).2 = 1 then false else utfF n (l.drop (nextP l).2)
theorem utfF_step (n : Nat) (l : List UInt8) (h : l ≠ []) : utfF (n + 1) l = if (nextP l).1 = 65533 ∧ (nextP l).2 = 1 then false else utfF n (l.drop (nextP l).2) := by
  cases l with
  | nil => exact absurd rfl h
  | cons c r => rfl
theorem badI (p : Nat × Nat) : (if (((p.1 : Nat) : Int) == 65533) = true then some (((p.2 : Nat) : Int) == 1) else some false : Option Bool) = some (decide (p.1 = 65533 ∧ p.2 = 1)) := by
  have a := eqN p.1 65533
  have b := eqN p.2 1
  rw [show (65533 : Int) = ((65533 : Nat) : Int) from rfl, show (1 : Int) = ((1 : Nat) : Int) from rfl, a, b]
  by_cases h1 : p.1 = 65533
  · rw [beq_iff_eq.2 h1, if_pos rfl]
    by_cases h2 : p.2 = 1
    · rw [beq_iff_eq.2 h2, decide_eq_true ⟨h1, h2⟩]
    · rw [beq_eq_false_iff_ne.2 h2, decide_eq_false (fun h => h2 h.2)]
  · rw [beq_eq_false_iff_ne.2 h1, if_neg (by decide), decide_eq_false (fun h => h1 h.1)]
theorem tIsU (s : List UInt8) (x1 : List UInt8) (hs : s.length < 9000000000000) : ∀ n k, k ≤ s.length → s.length - k ≤ n → ∃ out, utf_all_1_L1 s k = some (out, ()) ∧ utf_Is_L1 x1 out = some (if utfF n (s.drop k) = true then .inl () else .inr ()) := by
  intro n
  induction n with
  | zero =>
    intro k h1 h2
    rw [utf_all_1_L1, ltI, decide_eq_false (by omega : ¬ k < s.length)]
    refine ⟨[], rfl, ?_⟩
    rw [utf_Is_L1]; rfl
  | succ n ih =>
    intro k h1 h2
    by_cases hk : k < s.length
    · have hne : s.drop k ≠ [] := by rw [dropE hk]; exact List.cons_ne_nil _ _
      obtain ⟨z1, z2⟩ := nextP_size _ hne
      rw [List.length_drop] at z2
      have ew : wr ((k : Int) + ((nextP (s.drop k)).2 : Int)) = ((k + (nextP (s.drop k)).2 : Nat) : Int) := by rw [wr_in (by omega) (by omega)]; rfl
      obtain ⟨out, o1, o2⟩ := ih (k + (nextP (s.drop k)).2) (by omega) (by omega)
      rw [utf_all_1_L1, ltI, decide_eq_true hk, tNext s k hk (by omega)]
      simp only [if_true, bind_some']
      rw [ew, o1]
      refine ⟨_, rfl, ?_⟩
      rw [utf_Is_L1]
      simp only
      rw [badI (nextP (s.drop k)), o2, utfF_step n _ hne, List.drop_drop]
      by_cases hb : (nextP (s.drop k)).1 = 65533 ∧ (nextP (s.drop k)).2 = 1
      · rw [decide_eq_true hb, if_pos hb]; rfl
      · rw [decide_eq_false hb, if_neg hb]; rfl
    · rw [utf_all_1_L1, ltI, decide_eq_false hk, List.drop_eq_nil_of_le (by omega)]
      refine ⟨[], rfl, ?_⟩
      rw [utf_Is_L1]; rfl
theorem tUtf (s : List UInt8) (hs : s.length < 9000000000000) : utf_Is s = some (utfF s.length s) := by
  obtain ⟨out, o1, o2⟩ := tIsU s s hs s.length 0 (by omega) (by omega)
  rw [List.drop_zero] at o2
  rw [utf_Is, utf_all]
  simp only [bind_some']
  rw [utf_all_1, show (0 : Int) = ((0 : Nat) : Int) from rfl, o1]
  simp only [bind_some', List.append_nil, o2]
  cases utfF s.length s <;> rfl
theorem eqC (c : UInt8) (k : Nat) (hk : k < 256) : ((c.toNat : Int) == (k : Int)) = decide (c = UInt8.ofNat k) := by
  rw [eqN]
  by_cases h : c.toNat = k
  · rw [beq_iff_eq.2 h, decide_eq_true]
    apply UInt8.toNat_inj.1
    rw [h, UInt8.toNat_ofNat', Nat.mod_eq_of_lt hk]
  · rw [beq_eq_false_iff_ne.2 h, decide_eq_false]
    intro e; apply h; rw [e, UInt8.toNat_ofNat', Nat.mod_eq_of_lt hk]
end Go.Proofs.YtagokkpnfceidaaDoor
end

section
namespace Go.Proofs.YtagokkpnfceidaaDoor
open Go.RowKit

abbrev bad1 (l : List UInt8) : Prop := (nextP l).1 = 65533 ∧ (nextP l).2 = 1
theorem utfF_nil : ∀ n, utfF n [] = true
  | 0 => rfl
  | _ + 1 => rfl
theorem utfF_more : ∀ (n n' : Nat) (l : List UInt8), l.length ≤ n → l.length ≤ n' → utfF n l = utfF n' l
  | 0, n', [], _, _ => by rw [utfF_nil, utfF_nil]
  | n + 1, n', [], _, _ => by rw [utfF_nil, utfF_nil]
  | 0, _, _ :: _, h, _ => by simp at h
  | n + 1, 0, _ :: _, _, h => by simp at h
  | n + 1, n' + 1, c :: r, h, h' => by
    obtain ⟨z1, z2⟩ := nextP_size (c :: r) (List.cons_ne_nil _ _)
    rw [utfF_step n _ (List.cons_ne_nil _ _), utfF_step n' _ (List.cons_ne_nil _ _)]
    rw [utfF_more n n' _ (by rw [List.length_drop]; omega) (by rw [List.length_drop]; omega)]
abbrev okU (l : List UInt8) : Prop := utfF l.length l = true
theorem okU_iff {l : List UInt8} (h : l ≠ []) : okU l ↔ ¬ bad1 l ∧ okU (l.drop (nextP l).2) := by
  obtain ⟨z1, z2⟩ := nextP_size l h
  obtain ⟨n, hn⟩ : ∃ n, l.length = n + 1 := ⟨l.length - 1, by omega⟩
  unfold okU
  rw [hn, utfF_step n l h, utfF_more n (l.drop (nextP l).2).length _ (by rw [List.length_drop]; omega) (Nat.le_refl _)]
  by_cases hb : bad1 l
  · rw [if_pos hb]; simp [hb]
  · rw [if_neg hb]; simp [hb]

def rb4 (n : Nat) : List UInt8 := (bytesN n).map UInt8.ofNat
theorem rb4_len (n : Nat) : (rb4 n).length ≤ 4 ∧ 1 ≤ (rb4 n).length := by
  unfold rb4 bytesN
  split
  · simp
  · split
    · simp
    · split <;> simp
theorem ofNc {n : Nat} (h : n < 256) : (UInt8.ofNat n).toNat = n := by rw [UInt8.toNat_ofNat', Nat.mod_eq_of_lt h]
theorem nextP_rb (n : Nat) (h : runeB n = true) (z : List UInt8) : nextP (rb4 n ++ z) = (n, (rb4 n).length) := by
  have hn : n ≤ 1114111 := by unfold runeB at h; rw [Bool.and_eq_true] at h; exact of_decide_eq_true h.1
  have cb : ∀ k, k < 64 → contB (UInt8.ofNat (128 + k)) = true := fun k hk => by
    unfold contB; rw [ofNc (by omega), decide_eq_true (by omega), decide_eq_true (by omega)]; rfl
  unfold rb4 bytesN
  by_cases h1 : n < 128
  · rw [if_pos h1]
    show nextC (UInt8.ofNat n) z = (n, 1)
    unfold nextC
    rw [ofNc (by omega), if_pos h1]
  rw [if_neg h1]
  by_cases h2 : n < 2048
  · rw [if_pos h2]
    show nextC (UInt8.ofNat (192 + n / 64)) (UInt8.ofNat (128 + n % 64) :: z) = (n, 2)
    unfold nextC
    rw [ofNc (by omega), if_neg (by omega), if_pos (by omega)]
    simp only
    rw [ofNc (by omega), if_pos ⟨cb _ (by omega), by omega⟩, show (192 + n / 64 - 192) * 64 + (128 + n % 64 - 128) = n by omega]
  rw [if_neg h2]
  by_cases h3 : n < 65536
  · rw [if_pos h3]
    show nextC (UInt8.ofNat (224 + n / 4096)) (UInt8.ofNat (128 + n / 64 % 64) :: UInt8.ofNat (128 + n % 64) :: z) = (n, 3)
    unfold nextC
    rw [ofNc (by omega), if_neg (by omega), if_neg (by omega), if_pos (by omega)]
    simp only
    rw [ofNc (by omega), ofNc (by omega), show ((224 + n / 4096 - 224) * 64 + (128 + n / 64 % 64 - 128)) * 64 + (128 + n % 64 - 128) = n by omega, if_pos ⟨cb _ (by omega), cb _ (by omega), by omega, h⟩]
  rw [if_neg h3]
  show nextC (UInt8.ofNat (240 + n / 262144)) (UInt8.ofNat (128 + n / 4096 % 64) :: UInt8.ofNat (128 + n / 64 % 64) :: UInt8.ofNat (128 + n % 64) :: z) = (n, 4)
  unfold nextC
  rw [ofNc (by omega), if_neg (by omega), if_neg (by omega), if_neg (by omega), if_pos (by omega)]
  simp only
  rw [ofNc (by omega), ofNc (by omega), ofNc (by omega), show (((240 + n / 262144 - 240) * 64 + (128 + n / 4096 % 64 - 128)) * 64 + (128 + n / 64 % 64 - 128)) * 64 + (128 + n % 64 - 128) = n by omega, if_pos ⟨cb _ (by omega), cb _ (by omega), cb _ (by omega), by omega, h⟩]
theorem okU_rb (n : Nat) (h : runeB n = true) (z : List UInt8) (hz : okU z) : okU (rb4 n ++ z) := by
  have hl := rb4_len n
  have hne : rb4 n ++ z ≠ [] := by
    intro e
    rw [(List.append_eq_nil_iff.1 e).1] at hl
    simp at hl
  rw [okU_iff hne]
  unfold bad1
  rw [nextP_rb n h z]
  refine ⟨fun e => ?_, ?_⟩
  · obtain ⟨e1, e2⟩ := e
    simp only at e1 e2
    rw [e1] at e2
    exact absurd e2 (by decide)
  · simp only
    rw [List.drop_left]
    exact hz
theorem nextP_rune (l : List UInt8) (h : l ≠ []) : runeB (nextP l).1 = true := by
  have hb : runeB 65533 = true := by decide
  cases l with
  | nil => exact absurd rfl h
  | cons c r =>
    have hc := c.toNat_lt
    have cc : ∀ c : UInt8, contB c = true → c.toNat - 128 < 64 := fun c h => by unfold contB at h; simp at h; omega
    rw [nextP]
    unfold nextC
    split
    · unfold runeB; rw [decide_eq_true (by simp only; omega), decide_eq_false (by simp only; omega)]; rfl
    · split
      · split
        · split
          · rename_i hh
            have := cc _ hh.1
            unfold runeB; rw [decide_eq_true (by simp only; omega), decide_eq_false (by simp only; omega)]; rfl
          · exact hb
        · exact hb
      · split
        · split
          · split
            · rename_i hh; exact hh.2.2.2
            · exact hb
          · exact hb
        · split
          · split
            · split
              · rename_i hh; exact hh.2.2.2.2
              · exact hb
            · exact hb
          · exact hb
/-- A text's runes. -/
def runesF : Nat → List UInt8 → List Nat
  | 0, _ => []
  | n + 1, l => match l with
    | [] => []
    | _ :: _ => (nextP l).1 :: runesF n (l.drop (nextP l).2)
theorem runesF_step (n : Nat) (l : List UInt8) (h : l ≠ []) : runesF (n + 1) l = (nextP l).1 :: runesF n (l.drop (nextP l).2) := by
  cases l with
  | nil => exact absurd rfl h
  | cons c r => rfl
theorem runesF_rune : ∀ (n : Nat) (l : List UInt8), ∀ r ∈ runesF n l, runeB r = true
  | 0, _, r, h => by simp [runesF] at h
  | n + 1, [], r, h => by simp [runesF] at h
  | n + 1, c :: t, r, h => by
    rw [runesF_step n _ (List.cons_ne_nil _ _)] at h
    rcases List.mem_cons.1 h with rfl | h
    · exact nextP_rune _ (List.cons_ne_nil _ _)
    · exact runesF_rune n _ r h
theorem runesF_len : ∀ (n : Nat) (l : List UInt8), (runesF n l).length ≤ n
  | 0, _ => by simp [runesF]
  | n + 1, [] => by simp [runesF]
  | n + 1, c :: t => by
    rw [runesF_step n _ (List.cons_ne_nil _ _), List.length_cons]
    have := runesF_len n ((c :: t).drop (nextP (c :: t)).2)
    omega
abbrev runesP (l : List UInt8) : List Nat := runesF l.length l
def wholeP (l : List UInt8) : List UInt8 := (runesP l).flatMap rb4

def nameB (c : UInt8) : Bool := (decide (97 ≤ c.toNat) && decide (c.toNat ≤ 122)) || ((decide (65 ≤ c.toNat) && decide (c.toNat ≤ 90)) || ((decide (48 ≤ c.toNat) && decide (c.toNat ≤ 57)) || c == 45))
def nameP (s : List UInt8) : Bool := !(s == []) && (decide (s.length ≤ 32) && s.all nameB)
/-- Does a sign of a coded word begin here? -/
def eqq (l : List UInt8) : Bool := [61, 63].isPrefixOf l
def plainF : Nat → List UInt8 → Bool
  | k, [] => decide (0 < k)
  | k, c :: r => if (c = 32 ∧ k = 0) ∨ c.toNat < 32 ∨ 126 < c.toNat ∨ eqq (c :: r) = true then false
    else if c = 32 then plainF 0 r else if k < 60 then plainF (k + 1) r else false
def plainP (s : List UInt8) : Bool := s == [] || plainF 0 s
def shownB (c : UInt8) : Bool := decide (32 ≤ c.toNat) && decide (c.toNat ≤ 126)
/-- Neither unseen bytes nor the signs of a coded word. -/
def cleanP : List UInt8 → Bool
  | [] => true
  | c :: r => shownB c && (!(eqq (c :: r)) && cleanP r)
def sizeB (w : List UInt8) : Bool := decide (1 ≤ w.length) && decide (w.length ≤ 60)
def sizesK (k : Nat) : List (List UInt8) → Bool
  | [] => true
  | x :: r => (decide (1 ≤ k + x.length) && decide (k + x.length ≤ 60)) && r.all sizeB
theorem sizesK0 (l : List (List UInt8)) : sizesK 0 l = l.all sizeB := by
  cases l with
  | nil => rfl
  | cons x r => simp [sizesK, sizeB]
theorem plainF_cut : ∀ (l : List UInt8) (k : Nat), k ≤ 60 → plainF k l = (sizesK k (cutS 32 l) && cleanP l)
  | [], k, hk => by
    by_cases h0 : 0 < k
    · rw [plainF, decide_eq_true h0]; simp [cutS, sizesK, cleanP, hk]; omega
    · rw [plainF, decide_eq_false h0]; simp [cutS, sizesK, cleanP, hk]; omega
  | c :: r, k, hk => by
    rw [plainF, cleanP, shownB, cutS]
    by_cases hs : c.toNat < 32 ∨ 126 < c.toNat ∨ eqq (c :: r) = true
    · rw [if_pos (.inr hs)]
      rcases hs with h | h | h
      · rw [decide_eq_false (by omega : ¬ 32 ≤ c.toNat)]; simp
      · rw [decide_eq_false (by omega : ¬ c.toNat ≤ 126)]; simp
      · rw [h]; simp
    · have h1 : decide (32 ≤ c.toNat) = true := decide_eq_true (by omega)
      have h2 : decide (c.toNat ≤ 126) = true := decide_eq_true (by omega)
      have h3 : eqq (c :: r) = false := by cases h : eqq (c :: r) with
        | true => exact absurd (.inr (.inr h)) hs
        | false => rfl
      by_cases hc : c = 32
      · subst hc
        by_cases h0 : k = 0
        · rw [if_pos (.inl ⟨rfl, h0⟩), if_pos (beq_self_eq_true _), sizesK, h0]; simp
        · rw [if_neg (fun e => e.elim (fun e => h0 e.2) hs), if_pos rfl, if_pos (beq_self_eq_true _), sizesK, plainF_cut r 0 (by omega), sizesK0, h1, h2, h3]
          have a1 : decide (1 ≤ k + ([] : List UInt8).length) = true := decide_eq_true (by simp; omega)
          have a2 : decide (k + ([] : List UInt8).length ≤ 60) = true := decide_eq_true (by simpa using hk)
          rw [a1, a2]; simp
      · have hcb : ¬ (c == 32) = true := by simpa using hc
        rw [if_neg (fun e => e.elim (fun e => hc e.1) hs), if_neg hc, if_neg hcb, h1, h2, h3]
        cases hcut : cutS 32 r with
        | nil => exact absurd hcut (cutS_ne _ _)
        | cons x t =>
          simp only [sizesK, List.length_cons, Bool.true_and, Bool.not_false]
          by_cases h60 : k < 60
          · rw [if_pos h60, plainF_cut r (k + 1) (by omega), hcut, sizesK, show k + 1 + x.length = k + (x.length + 1) by omega]
          · rw [if_neg h60, decide_eq_false (by omega : ¬ k + (x.length + 1) ≤ 60)]; simp
theorem plain_cut (l : List UInt8) : plainF 0 l = ((cutS 32 l).all sizeB && cleanP l) := by rw [plainF_cut l 0 (by omega), sizesK0]

def frontB : List UInt8 := [61, 63, 85, 84, 70, 45, 56, 63, 66, 63]
def codedP (g : List UInt8) : List UInt8 := frontB ++ encP g ++ [63, 61]
def groupsP : List UInt8 → List (List UInt8) → List (List UInt8)
  | now, [] => [now]
  | now, b :: r => if 45 < now.length + b.length then now :: groupsP b r else groupsP (now ++ b) r
def wordsP (v : List UInt8) : List (List UInt8) :=
  if v = [] then [] else if plainP v = true then cutS 32 v else (groupsP [] ((runesP v).map rb4)).map codedP
theorem groups_join : ∀ (r : List (List UInt8)) (now : List UInt8), (groupsP now r).flatten = now ++ r.flatten
  | [], now => by simp [groupsP]
  | b :: r, now => by
    rw [groupsP]
    split
    · rw [List.flatten_cons, groups_join r b]; simp
    · rw [groups_join r (now ++ b)]; simp
theorem groups_len : ∀ (r : List (List UInt8)) (now : List UInt8), now.length ≤ 45 → (∀ b ∈ r, b.length ≤ 4) → ∀ g ∈ groupsP now r, g.length ≤ 45
  | [], now, hn, _, g, hg => by simp only [groupsP, List.mem_singleton] at hg; subst hg; exact hn
  | b :: r, now, hn, hb, g, hg => by
    have h4 := hb b (by simp)
    rw [groupsP] at hg
    split at hg
    · rcases List.mem_cons.1 hg with rfl | hg
      · exact hn
      · exact groups_len r b (by omega) (fun x hx => hb x (by simp [hx])) g hg
    · exact groups_len r (now ++ b) (by rw [List.length_append]; omega) (fun x hx => hb x (by simp [hx])) g hg
theorem groups_num : ∀ (r : List (List UInt8)) (now : List UInt8), (groupsP now r).length ≤ r.length + 1
  | [], now => by simp [groupsP]
  | b :: r, now => by
    rw [groupsP]
    split
    · have := groups_num r b; simp; omega
    · have := groups_num r (now ++ b); simp; omega
/-- Runes that are joined: no bad bytes. -/
inductive Runed : List UInt8 → Prop
  | nil : Runed []
  | app {a : List UInt8} (n : Nat) (h : runeB n = true) (ha : Runed a) : Runed (a ++ rb4 n)
theorem Runed.ok : ∀ {a : List UInt8}, Runed a → ∀ z, okU z → okU (a ++ z)
  | _, .nil, z, hz => hz
  | _, .app n h ha, z, hz => by rw [List.append_assoc]; exact Runed.ok ha _ (okU_rb n h z hz)
theorem okU_nil : okU [] := rfl
theorem Runed.okU {a : List UInt8} (h : Runed a) : okU a := by have := h.ok [] okU_nil; rwa [List.append_nil] at this
theorem groups_runed : ∀ (l : List Nat) (now : List UInt8), Runed now → (∀ n ∈ l, runeB n = true) → ∀ g ∈ groupsP now (l.map rb4), Runed g
  | [], now, hn, _, g, hg => by simp only [List.map_nil, groupsP, List.mem_singleton] at hg; subst hg; exact hn
  | n :: l, now, hn, hb, g, hg => by
    rw [List.map_cons, groupsP] at hg
    have hr := hb n (by simp)
    split at hg
    · rcases List.mem_cons.1 hg with rfl | hg
      · exact hn
      · have h1 : Runed ([] ++ rb4 n) := .app n hr .nil
        rw [List.nil_append] at h1
        exact groups_runed l (rb4 n) h1 (fun x hx => hb x (by simp [hx])) g hg
    · exact groups_runed l (now ++ rb4 n) (.app n hr hn) (fun x hx => hb x (by simp [hx])) g hg
theorem cutS_join (b : UInt8) : ∀ l : List UInt8, ∀ x r, cutS b l = x :: r → x ++ r.flatMap (fun w => b :: w) = l
  | [], x, r, h => by simp only [cutS, List.cons.injEq] at h; obtain ⟨rfl, rfl⟩ := h; rfl
  | a :: t, x, r, h => by
    rw [cutS] at h
    cases hc : cutS b t with
    | nil => exact absurd hc (cutS_ne _ _)
    | cons y q =>
      have ih := cutS_join b t y q hc
      rw [hc] at h
      split at h
      · rename_i hab
        simp only [List.cons.injEq] at h
        obtain ⟨rfl, rfl⟩ := h
        have : a = b := by simpa using hab
        subst this
        rw [List.flatMap_cons, List.nil_append, List.cons_append, ih]
      · simp only [List.cons.injEq] at h
        obtain ⟨rfl, rfl⟩ := h
        rw [List.cons_append, ih]
theorem cutS_mem (b : UInt8) : ∀ l : List UInt8, ∀ w ∈ cutS b l, ∀ c ∈ w, c ∈ l ∧ c ≠ b
  | [], w, hw, c, hc => by simp only [cutS, List.mem_singleton] at hw; subst hw; simp at hc
  | a :: t, w, hw, c, hc => by
    rw [cutS] at hw
    split at hw
    · rcases List.mem_cons.1 hw with rfl | hw
      · simp at hc
      · have := cutS_mem b t w hw c hc
        exact ⟨by simp [this.1], this.2⟩
    · rename_i hab
      have hab' : a ≠ b := by simpa using hab
      split at hw
      · rename_i x r hcut
        rcases List.mem_cons.1 hw with rfl | hw
        · rcases List.mem_cons.1 hc with rfl | hc
          · exact ⟨by simp, hab'⟩
          · have := cutS_mem b t x (by rw [hcut]; simp) c hc
            exact ⟨by simp [this.1], this.2⟩
        · have := cutS_mem b t w (by rw [hcut]; simp [hw]) c hc
          exact ⟨by simp [this.1], this.2⟩
      · simp only [List.mem_singleton] at hw
        subst hw
        simp only [List.mem_singleton] at hc
        subst hc
        exact ⟨by simp, hab'⟩
end Go.Proofs.YtagokkpnfceidaaDoor
end

section
namespace Go.Proofs.YtagokkpnfceidaaDoor
open Go.RowKit

theorem u32_in {n : Int} (h1 : 0 ≤ n) (h2 : n ≤ 4294967295) : IntKind.u32.wrap n = n := by
  simp [IntKind.wrap, IntKind.bits, IntKind.signed]
  omega
theorem u32n (n : Nat) (h : n ≤ 4294967295) : IntKind.u32.wrap (n : Int) = (n : Int) := u32_in (by omega) (by omega)
theorem sh8 (v : Nat) (h : v < 65536) : IntKind.u32.wrap ((v : Int) * 2 ^ (min (8 : Int).toNat (IntKind.u32.bits))) = ((v * 256 : Nat) : Int) := by
  have : (min (8 : Int).toNat (IntKind.u32.bits)) = 8 := rfl
  rw [this, u32_in (by omega) (by omega)]; omega
theorem sh6 (v : Nat) (h : v < 262144) : IntKind.u32.wrap ((v : Int) * 2 ^ (min (6 : Int).toNat (IntKind.u32.bits))) = ((v * 64 : Nat) : Int) := by
  have : (min (6 : Int).toNat (IntKind.u32.bits)) = 6 := rfl
  rw [this, u32_in (by omega) (by omega)]; omega
theorem orU (k a b : Nat) (h : 2 ^ k * a + b ≤ 4294967295) (hb : b < 2 ^ k) : bits .or .u32 ((2 ^ k * a : Nat) : Int) (b : Int) = ((2 ^ k * a + b : Nat) : Int) := by
  have e2 : (2 : Nat) ^ k * a + b = 2 ^ k * a ||| b := Nat.two_pow_add_eq_or_of_lt hb a
  show IntKind.u32.wrap ((BitVec.ofInt 32 ((2 ^ k * a : Nat) : Int) ||| BitVec.ofInt 32 (b : Int)).toNat : Int) = _
  rw [BitVec.toNat_or, BitVec.ofInt_natCast, BitVec.ofInt_natCast, BitVec.toNat_ofNat, BitVec.toNat_ofNat, Nat.mod_eq_of_lt (by omega), Nat.mod_eq_of_lt (by omega), ← e2]
  exact u32n _ h
theorem or8 (a b : Nat) (ha : a < 65536) (hb : b < 256) : bits .or .u32 ((a * 256 : Nat) : Int) (b : Int) = ((a * 256 + b : Nat) : Int) := by
  have := orU 8 a b (by omega) (by omega)
  rw [show 2 ^ 8 * a = a * 256 by omega] at this
  exact this
theorem or6 (a b : Nat) (ha : a < 262144) (hb : b < 64) : bits .or .u32 ((a * 64 : Nat) : Int) (b : Int) = ((a * 64 + b : Nat) : Int) := by
  have := orU 6 a b (by omega) (by omega)
  rw [show 2 ^ 6 * a = a * 64 by omega] at this
  exact this
theorem andU (k n : Nat) (hk : k ≤ 16) (h : n ≤ 4294967295) : bits .and .u32 (n : Int) ((2 ^ k - 1 : Nat) : Int) = ((n % 2 ^ k : Nat) : Int) := by
  show IntKind.u32.wrap ((BitVec.ofInt 32 (n : Int) &&& BitVec.ofInt 32 ((2 ^ k - 1 : Nat) : Int)).toNat : Int) = _
  have hp : 2 ^ k ≤ 2 ^ 16 := Nat.pow_le_pow_right (by omega) hk
  have e : n &&& (2 ^ k - 1) = n % 2 ^ k := Nat.and_two_pow_sub_one_eq_mod n k
  have hp0 : 0 < 2 ^ k := Nat.pow_pos (by omega)
  have hm : n % 2 ^ k < 2 ^ k := Nat.mod_lt _ hp0
  rw [BitVec.toNat_and, BitVec.ofInt_natCast, BitVec.ofInt_natCast, BitVec.toNat_ofNat, BitVec.toNat_ofNat, Nat.mod_eq_of_lt (by omega), Nat.mod_eq_of_lt (by omega), e]
  exact u32n _ (by omega)
theorem and63u (n : Nat) (h : n ≤ 4294967295) : bits .and .u32 (n : Int) 63 = ((n % 64 : Nat) : Int) := andU 6 n (by omega) h
theorem and255u (n : Nat) (h : n ≤ 4294967295) : bits .and .u32 (n : Int) 255 = ((n % 256 : Nat) : Int) := andU 8 n (by omega) h
theorem and65535u (n : Nat) (h : n ≤ 4294967295) : bits .and .u32 (n : Int) 65535 = ((n % 65536 : Nat) : Int) := andU 16 n (by omega) h
theorem and0u (n : Nat) (h : n ≤ 4294967295) : bits .and .u32 (n : Int) 0 = 0 := by
  have := andU 0 n (by omega) h
  rw [show n % 2 ^ 0 = 0 by omega] at this
  exact this
theorem fdN (n k : Nat) : (n : Int).fdiv (k : Int) = ((n / k : Nat) : Int) := by
  rw [Int.fdiv_eq_ediv_of_nonneg _ (by omega)]; rfl
theorem u8m (n : Nat) : IntKind.u8.wrap (n : Int) = ((n % 256 : Nat) : Int) := by
  simp [IntKind.wrap, IntKind.bits, IntKind.signed]

theorem wb2 (x : Int) (f : Bool) (acc : List Int) (h : acc.length < 1000000000) : strings_Builder_WriteByte_2 x f acc = some ((), true, acc ++ [x]) := by
  rw [strings_Builder_WriteByte_2, strings_Builder_copyCheck_4, bind_some', appL_ok (by simp; omega) (by simp; omega)]; rfl
theorem ws5 (p : List UInt8) (f : Bool) (acc : List Int) (h : acc.length + p.length < 1000000000) : strings_Builder_WriteString_5 p f acc = some ((p.length : Int), (), true, acc ++ s2b p) := by
  rw [strings_Builder_WriteString_5, strings_Builder_copyCheck_4, bind_some', appL_ok (by rw [s2b_len]; omega) (by rw [s2b_len]; omega)]; rfl
theorem s2b_one (A : List UInt8) (c : UInt8) : s2b A ++ [(c.toNat : Int)] = s2b (A ++ [c]) := by rw [s2b_app]; rfl
theorem sstr4 (f : Bool) (A : List UInt8) : strings_Builder_String_4 f (s2b A) = some A := by rw [strings_Builder_String_4]; exact b2s_s2b A

theorem wr01 : wr (0 + 1) = 1 := by decide
theorem wr12 : wr (1 + 1) = 2 := by decide
theorem wr23 : wr (2 + 1) = 3 := by decide
theorem sh8z : IntKind.u32.wrap ((0 : Int) * 2 ^ (min (8 : Int).toNat (IntKind.u32.bits))) = ((0 * 256 : Nat) : Int) := sh8 0 (by omega)
theorem minI3 (l : List UInt8) (k : Nat) (h : k = min l.length 3) : (if (l.length : Int) < (3 : Int) then (l.length : Int) else (3 : Int)) = (k : Int) := by
  split <;> omega
theorem idx_2 {α : Type} (l : List α) : idx l 2 = l[2]? := idx_lit l 2
theorem idx_3 {α : Type} (l : List α) : idx l 3 = l[3]? := idx_lit l 3
theorem dec01 : decide ((0 : Int) < 3) = true := by decide
theorem dec13 : decide ((1 : Int) < 3) = true := by decide
theorem dec23 : decide ((2 : Int) < 3) = true := by decide
theorem dec33 : decide ((3 : Int) < 3) = false := by decide
theorem tE2a (a : UInt8) (f : Bool) (acc : List Int) : b64_Encode_L2 [a] f acc 0 0 = some ((a.toNat * 65536 : Nat) : Int) := by
  have ha := a.toNat_lt
  have hm := minI3 [a] 1 (by simp)
  rw [b64_Encode_L2, hm, dec01]
  simp only [if_true, show decide ((0 : Int) < ((1 : Nat) : Int)) = true from by decide, idx_0, List.getElem?_cons_zero, bind_some']
  rw [sh8z, u32n _ (by omega), or8 0 _ (by omega) (by omega), wr01, b64_Encode_L2, hm, dec13]
  simp only [if_true, show decide ((1 : Int) < ((1 : Nat) : Int)) = false from by decide, Bool.false_eq_true, if_false]
  rw [sh8 _ (by omega), wr12, b64_Encode_L2, hm, dec23]
  simp only [if_true, show decide ((2 : Int) < ((1 : Nat) : Int)) = false from by decide, Bool.false_eq_true, if_false]
  rw [sh8 _ (by omega), wr23, b64_Encode_L2, dec33]
  rw [if_neg (by decide)]
  exact congrArg (fun n : Nat => some (n : Int)) (by omega)
theorem tE2b (a b : UInt8) (f : Bool) (acc : List Int) : b64_Encode_L2 [a, b] f acc 0 0 = some ((a.toNat * 65536 + b.toNat * 256 : Nat) : Int) := by
  have ha := a.toNat_lt
  have hb := b.toNat_lt
  have hm := minI3 [a, b] 2 (by simp)
  rw [b64_Encode_L2, hm, dec01]
  simp only [if_true, show decide ((0 : Int) < ((2 : Nat) : Int)) = true from by decide, idx_0, List.getElem?_cons_zero, bind_some']
  rw [sh8z, u32n _ (by omega), or8 0 _ (by omega) (by omega), wr01, b64_Encode_L2, hm, dec13]
  simp only [if_true, show decide ((1 : Int) < ((2 : Nat) : Int)) = true from by decide, idx_1, List.getElem?_cons_succ, List.getElem?_cons_zero, bind_some']
  rw [sh8 _ (by omega), u32n _ (by omega), or8 _ _ (by omega) (by omega), wr12, b64_Encode_L2, hm, dec23]
  simp only [if_true, show decide ((2 : Int) < ((2 : Nat) : Int)) = false from by decide, Bool.false_eq_true, if_false]
  rw [sh8 _ (by omega), wr23, b64_Encode_L2, dec33]
  rw [if_neg (by decide)]
  exact congrArg (fun n : Nat => some (n : Int)) (by omega)
theorem tE2c (a b c : UInt8) (r : List UInt8) (f : Bool) (acc : List Int) : b64_Encode_L2 (a :: b :: c :: r) f acc 0 0 = some ((a.toNat * 65536 + b.toNat * 256 + c.toNat : Nat) : Int) := by
  have ha := a.toNat_lt
  have hb := b.toNat_lt
  have hc := c.toNat_lt
  have hm := minI3 (a :: b :: c :: r) 3 (by simp)
  rw [b64_Encode_L2, hm, dec01]
  simp only [if_true, show decide ((0 : Int) < ((3 : Nat) : Int)) = true from by decide, idx_0, List.getElem?_cons_zero, bind_some']
  rw [sh8z, u32n _ (by omega), or8 0 _ (by omega) (by omega), wr01, b64_Encode_L2, hm, dec13]
  simp only [if_true, show decide ((1 : Int) < ((3 : Nat) : Int)) = true from by decide, idx_1, List.getElem?_cons_succ, List.getElem?_cons_zero, bind_some']
  rw [sh8 _ (by omega), u32n _ (by omega), or8 _ _ (by omega) (by omega), wr12, b64_Encode_L2, hm, dec23]
  simp only [if_true, show decide ((2 : Int) < ((3 : Nat) : Int)) = true from by decide, idx_2, List.getElem?_cons_succ, List.getElem?_cons_zero, bind_some']
  rw [sh8 _ (by omega), u32n _ (by omega), or8 _ _ (by omega) (by omega), wr23, b64_Encode_L2, dec33]
  rw [if_neg (by decide)]
  exact congrArg (fun n : Nat => some (n : Int)) (by omega)
theorem dgN_eq (n : Nat) : dgN n = dgP n := rfl
theorem b64d (n : Nat) (h : n < 64) : b64_digit (n : Int) = some ((dgP n).toNat : Int) := by
  rw [b64_digit, need_ok (by omega), bind_some', need_ok (by omega), bind_some', Int.toNat_natCast, dgN_eq]
/-- The digits of a number of 24 bits, and signs. -/
theorem tE3 (l : List UInt8) (k N : Nat) (hk : k = min l.length 3) (hN : N < 16777216) (_ : Bool) (A : List UInt8) (hA : A.length < 100000000) :
    ∀ d i : Nat, i + d = 4 → ∀ (B : List UInt8), B.length = i → ∀ f, ∃ f', b64_Encode_L3 l (N : Int) (i : Int) f (s2b (A ++ B)) =
      some (f', s2b (A ++ B ++ (([dgP (N / 262144 % 64), (if 1 ≤ k then dgP (N / 4096 % 64) else 61), (if 2 ≤ k then dgP (N / 64 % 64) else 61), (if 3 ≤ k then dgP (N % 64) else 61)] : List UInt8).drop i))) := by
  have hm := minI3 l k hk
  intro d
  induction d with
  | zero =>
    intro i hi B hB f
    obtain rfl : i = 4 := by omega
    refine ⟨f, ?_⟩
    rw [b64_Encode_L3, show decide (((4 : Nat) : Int) < 4) = false from by decide]
    simp
  | succ d ih =>
    intro i hi B hB f
    have step : ∀ c : UInt8, ([dgP (N / 262144 % 64), (if 1 ≤ k then dgP (N / 4096 % 64) else 61), (if 2 ≤ k then dgP (N / 64 % 64) else 61), (if 3 ≤ k then dgP (N % 64) else 61)] : List UInt8).drop i = c :: ([dgP (N / 262144 % 64), (if 1 ≤ k then dgP (N / 4096 % 64) else 61), (if 2 ≤ k then dgP (N / 64 % 64) else 61), (if 3 ≤ k then dgP (N % 64) else 61)] : List UInt8).drop (i + 1) →
        ∃ f', b64_Encode_L3 l (N : Int) ((i + 1 : Nat) : Int) true (s2b (A ++ B) ++ [(c.toNat : Int)]) = some (f', s2b (A ++ B ++ (([dgP (N / 262144 % 64), (if 1 ≤ k then dgP (N / 4096 % 64) else 61), (if 2 ≤ k then dgP (N / 64 % 64) else 61), (if 3 ≤ k then dgP (N % 64) else 61)] : List UInt8).drop i))) := fun c hc => by
      obtain ⟨f', h⟩ := ih (i + 1) (by omega) (B ++ [c]) (by simp [hB]) true
      refine ⟨f', ?_⟩
      rw [s2b_one, hc, List.append_assoc A B [c], h]
      simp
    have hAB : (s2b (A ++ B)).length < 1000000000 := by rw [s2b_len, List.length_append]; omega
    have dig : ∀ (s p : Nat), wr (18 - (wr (6 * (i : Int)))) = (s : Int) → s ≤ 18 → p = 2 ^ s → (need (0 ≤ (wr (18 - (wr (6 * (i : Int)))))) >>= fun _ =>
      b64_digit (bits .and .u32 ((N : Int).fdiv (2 ^ (min (wr (18 - (wr (6 * (i : Int))))).toNat (IntKind.u32.bits)))) 63)) = some ((dgP (N / p % 64)).toNat : Int) := fun s p hs h18 hp => by
      have e : min ((s : Int)).toNat (IntKind.u32.bits) = s := by
        show min s 32 = s
        omega
      rw [hs, need_ok (by omega), bind_some', e, show (2 : Int) ^ s = ((p : Nat) : Int) by rw [hp]; simp, fdN, and63u _ (by have := Nat.div_le_self N p; omega), b64d _ (Nat.mod_lt _ (by omega))]
    rw [b64_Encode_L3, hm, show decide ((i : Int) < 4) = true from decide_eq_true (by omega), if_pos rfl]
    by_cases hik : k < i
    · rw [decide_eq_true (show (i : Int) > (k : Int) by omega), if_pos rfl]
      have hw := wb2 61 f _ hAB
      have e61 : (61 : Int) = ((61 : UInt8).toNat : Int) := rfl
      rw [hw, bind_some', wr_succ (by omega)]
      simp only
      rw [e61]
      refine step 61 ?_
      obtain rfl | rfl | rfl : i = 1 ∨ i = 2 ∨ i = 3 := by omega
      · simp [show ¬ 1 ≤ k by omega]
      · simp [show ¬ 2 ≤ k by omega]
      · simp [show ¬ 3 ≤ k by omega]
    · rw [decide_eq_false (show ¬ (i : Int) > (k : Int) by omega), if_neg (by decide)]
      have fin : ∀ (s p : Nat), wr (18 - (wr (6 * (i : Int)))) = (s : Int) → s ≤ 18 → p = 2 ^ s → ([dgP (N / 262144 % 64), (if 1 ≤ k then dgP (N / 4096 % 64) else 61), (if 2 ≤ k then dgP (N / 64 % 64) else 61), (if 3 ≤ k then dgP (N % 64) else 61)] : List UInt8).drop i = dgP (N / p % 64) :: ([dgP (N / 262144 % 64), (if 1 ≤ k then dgP (N / 4096 % 64) else 61), (if 2 ≤ k then dgP (N / 64 % 64) else 61), (if 3 ≤ k then dgP (N % 64) else 61)] : List UInt8).drop (i + 1) → ∃ f', (need (0 ≤ (wr (18 - (wr (6 * (i : Int)))))) >>= fun _ =>
      b64_digit (bits .and .u32 ((N : Int).fdiv (2 ^ (min (wr (18 - (wr (6 * (i : Int))))).toNat (IntKind.u32.bits)))) 63) >>= fun x6 =>
      strings_Builder_WriteByte_2 x6 f (s2b (A ++ B)) >>= fun x7 =>
      b64_Encode_L3 l (N : Int) (wr ((i : Int) + 1)) x7.2.1 x7.2.2) = some (f', s2b (A ++ B ++ (([dgP (N / 262144 % 64), (if 1 ≤ k then dgP (N / 4096 % 64) else 61), (if 2 ≤ k then dgP (N / 64 % 64) else 61), (if 3 ≤ k then dgP (N % 64) else 61)] : List UInt8).drop i))) := fun s p hs h18 hp hd => by
        have h := dig s p hs h18 hp
        rw [hs, need_ok (by omega), bind_some'] at h
        rw [hs, need_ok (by omega), bind_some', h, bind_some', wb2 _ f _ hAB, bind_some', wr_succ (by omega)]
        exact step _ hd
      obtain rfl | rfl | rfl | rfl : i = 0 ∨ i = 1 ∨ i = 2 ∨ i = 3 := by omega
      · exact fin 18 262144 (by decide) (by omega) rfl rfl
      · exact fin 12 4096 (by decide) (by omega) rfl (by simp [show 1 ≤ k by omega])
      · exact fin 6 64 (by decide) (by omega) rfl (by simp [show 2 ≤ k by omega])
      · exact fin 0 1 (by decide) (by omega) rfl (by simp [show 3 ≤ k by omega])
theorem tE1 : ∀ (l : List UInt8) (f : Bool) (A : List UInt8), A.length + 2 * l.length < 10000000 → ∃ f', b64_Encode_L1 l f (s2b A) = some (f', s2b (A ++ encP l))
  | [], f, A, _ => ⟨f, by rw [b64_Encode_L1]; simp [encP]⟩
  | [a], f, A, h => by
    have ha := a.toNat_lt
    obtain ⟨f1, h1⟩ := tE3 [a] 1 (a.toNat * 65536) (by simp) (by omega) f A (by simp at h; omega) 4 0 rfl [] rfl f
    rw [List.append_nil] at h1
    rw [b64_Encode_L1, show decide ((([a].length : Nat) : Int) > 0) = true from by simp, if_pos rfl, tE2a, bind_some']
    rw [show ((0 : Nat) : Int) = 0 from rfl] at h1
    rw [h1, bind_some', minI3 [a] 1 (by simp), cutL_ok (by omega) (by simp) (by omega), bind_some', b64_Encode_L1]
    refine ⟨f1, ?_⟩
    simp only [encP]
    rw [show a.toNat * 65536 / 262144 % 64 = a.toNat / 4 by omega, show a.toNat * 65536 / 4096 % 64 = a.toNat % 4 * 16 by omega]
    simp
  | [a, b], f, A, h => by
    have ha := a.toNat_lt
    have hb := b.toNat_lt
    obtain ⟨f1, h1⟩ := tE3 [a, b] 2 (a.toNat * 65536 + b.toNat * 256) (by simp) (by omega) f A (by simp at h; omega) 4 0 rfl [] rfl f
    rw [List.append_nil] at h1
    rw [b64_Encode_L1, show decide ((([a, b].length : Nat) : Int) > 0) = true from by simp, if_pos rfl, tE2b, bind_some']
    rw [show ((0 : Nat) : Int) = 0 from rfl] at h1
    rw [h1, bind_some', minI3 [a, b] 2 (by simp), cutL_ok (by omega) (by simp) (by omega), bind_some', b64_Encode_L1]
    refine ⟨f1, ?_⟩
    simp only [encP]
    rw [show (a.toNat * 65536 + b.toNat * 256) / 262144 % 64 = a.toNat / 4 by omega, show (a.toNat * 65536 + b.toNat * 256) / 4096 % 64 = a.toNat % 4 * 16 + b.toNat / 16 by omega, show (a.toNat * 65536 + b.toNat * 256) / 64 % 64 = b.toNat % 16 * 4 by omega]
    simp
  | a :: b :: c :: r, f, A, h => by
    have ha := a.toNat_lt
    have hb := b.toNat_lt
    have hc := c.toNat_lt
    obtain ⟨f1, h1⟩ := tE3 (a :: b :: c :: r) 3 (a.toNat * 65536 + b.toNat * 256 + c.toNat) (by simp) (by omega) f A (by simp at h; omega) 4 0 rfl [] rfl f
    rw [List.append_nil] at h1
    rw [b64_Encode_L1, show decide ((((a :: b :: c :: r).length : Nat) : Int) > 0) = true from decide_eq_true (by simp; omega), if_pos rfl, tE2c, bind_some']
    rw [show ((0 : Nat) : Int) = 0 from rfl] at h1
    rw [h1, bind_some', minI3 (a :: b :: c :: r) 3 (by simp), cutL_ok (by omega) (by simp; omega) (by omega), bind_some']
    have e : ((a :: b :: c :: r).take (((a :: b :: c :: r).length : Nat) : Int).toNat).drop ((3 : Nat) : Int).toNat = r := by rw [Int.toNat_natCast, Int.toNat_natCast, List.take_length]; rfl
    rw [e, show (a.toNat * 65536 + b.toNat * 256 + c.toNat) / 262144 % 64 = a.toNat / 4 by omega, show (a.toNat * 65536 + b.toNat * 256 + c.toNat) / 4096 % 64 = a.toNat % 4 * 16 + b.toNat / 16 by omega, show (a.toNat * 65536 + b.toNat * 256 + c.toNat) / 64 % 64 = b.toNat % 16 * 4 + c.toNat / 64 by omega, show (a.toNat * 65536 + b.toNat * 256 + c.toNat) % 64 = c.toNat % 64 by omega]
    obtain ⟨f2, h2⟩ := tE1 r f1 (A ++ [dgP (a.toNat / 4), dgP (a.toNat % 4 * 16 + b.toNat / 16), dgP (b.toNat % 16 * 4 + c.toNat / 64), dgP (c.toNat % 64)]) (by simp at h ⊢; omega)
    refine ⟨f2, ?_⟩
    simp only [encP, Nat.le_refl, if_true, show (1 : Nat) ≤ 3 from by omega, show (2 : Nat) ≤ 3 from by omega, List.drop_zero]
    rw [h2]
    simp
theorem tEnc (l : List UInt8) (h : l.length ≤ 1000000) : b64_Encode l = some (encP l) := by
  obtain ⟨f, h1⟩ := tE1 l false [] (by simp; omega)
  rw [List.nil_append] at h1
  rw [b64_Encode]
  have e : b64_Encode_L1 l false [] = some (f, s2b (encP l)) := h1
  rw [e, bind_some', sstr4, bind_some']
end Go.Proofs.YtagokkpnfceidaaDoor
end

section
namespace Go.Proofs.YtagokkpnfceidaaDoor
open Go.RowKit

theorem eqN' (n k : Nat) : ((n : Int) == (k : Int)) = (n == k) := by
  by_cases h : n = k
  · subst h; simp
  · rw [beq_eq_false_iff_ne.2 h, beq_eq_false_iff_ne.2 (by omega)]
theorem worthF : ∀ c : Fin 256, b64_worth ((c.1 : Nat) : Int) = some (match dvP (UInt8.ofNat c.1) with | some n => ((n : Int), true) | none => (0, false)) := by decide +kernel
theorem worth (c : UInt8) : b64_worth (c.toNat : Int) = some (match dvP c with | some n => ((n : Int), true) | none => (0, false)) := by
  have := worthF ⟨c.toNat, c.toNat_lt⟩
  simp only [UInt8.ofNat_toNat] at this
  exact this
theorem eq61 (c : UInt8) : ((c.toNat : Int) == 61) = decide (c = 61) := by
  have h := beqB c 61
  rw [show (((61 : UInt8).toNat : Nat) : Int) = 61 from rfl] at h
  rw [h]
  by_cases e : c = 61
  · rw [e]; rfl
  · rw [beq_eq_false_iff_ne.2 e, decide_eq_false e]
/-- How many of the four are digits. -/
def kF (y z : UInt8) (last : Bool) : Nat := if last = true ∧ z = 61 then (if y = 61 then 2 else 3) else 4
theorem wr41 : wr (4 - 1) = 3 := by decide
theorem wr31 : wr (3 - 1) = 2 := by decide
theorem tF1 (w x y z : UInt8) (last : Bool) : b64_four_L1 [w, x, y, z] last 4 = some (kF y z last : Int) := by
  rw [b64_four_L1]
  cases last with
  | false => rfl
  | true =>
    simp only [if_true, show decide ((4 : Int) > 2) = true from by decide, wr41, idx_3, List.getElem?_cons_succ, List.getElem?_cons_zero, bind_some', eq61]
    by_cases hz : z = 61
    · rw [decide_eq_true hz, if_pos rfl, b64_four_L1]
      simp only [if_true, show decide ((3 : Int) > 2) = true from by decide, wr31, idx_2, List.getElem?_cons_succ, List.getElem?_cons_zero, bind_some', eq61]
      by_cases hy : y = 61
      · rw [decide_eq_true hy, if_pos rfl, b64_four_L1]
        simp only [if_true, show decide ((2 : Int) > 2) = false from by decide, Bool.false_eq_true, if_false, bind_some']
        rw [kF, if_pos ⟨rfl, hz⟩, if_pos hy]; rfl
      · rw [decide_eq_false hy, if_neg (by decide), kF, if_pos ⟨rfl, hz⟩, if_neg hy]; rfl
    · rw [decide_eq_false hz, if_neg (by decide), kF, if_neg (fun h => hz h.2)]; rfl
/-- The number of four digits, k of them read. -/
def numF : Nat → List UInt8 → Nat → Nat → Option Nat
  | _, [], _, v => some v
  | k, c :: r, i, v => if k ≤ i then numF k r (i + 1) (v * 64) else match dvP c with
    | some n => numF k r (i + 1) (v * 64 + n)
    | none => none
theorem dv_lt {c : UInt8} {n : Nat} (h : dvP c = some n) : n < 64 := (dg_dv h).1
theorem tF2 (l : List UInt8) (hl : l.length = 4) (k : Nat) : ∀ d i v : Nat, i + d = 4 → v < 64 ^ i → b64_four_L2 l (k : Int) (v : Int) (i : Int) = some (match numF k (l.drop i) i v with | some n => .inl (n : Int) | none => .inr ()) := by
  intro d
  induction d with
  | zero =>
    intro i v hi hv
    obtain rfl : i = 4 := by omega
    rw [b64_four_L2, show decide (((4 : Nat) : Int) < 4) = false from by decide, if_neg (by decide), List.drop_eq_nil_of_le (by omega), numF]
  | succ d ih =>
    intro i v hi hv
    have hil : i < l.length := by omega
    have h3 : 64 ^ i ≤ 64 ^ 3 := Nat.pow_le_pow_right (by omega) (by omega)
    have hv2 : v < 262144 := by omega
    have h64 : 64 ^ (i + 1) = 64 ^ i * 64 := Nat.pow_succ 64 i
    rw [b64_four_L2, show decide ((i : Int) < 4) = true from decide_eq_true (by omega), if_pos rfl, sh6 _ hv2, wr_succ (by omega), dropE hil, numF]
    by_cases hk : k ≤ i
    · rw [decide_eq_true (show (i : Int) ≥ (k : Int) by omega), if_pos rfl, if_pos hk, ih (i + 1) (v * 64) (by omega) (by omega)]
    · rw [decide_eq_false (show ¬ (i : Int) ≥ (k : Int) by omega), if_neg (by decide), if_neg hk, idx_nat, getE hil, bind_some', worth, bind_some']
      cases hd : dvP l[i] with
      | none => rfl
      | some n =>
        have hn := dv_lt hd
        simp only [Bool.not_true, Bool.false_eq_true, if_false]
        rw [or6 _ _ hv2 hn, ih (i + 1) (v * 64 + n) (by omega) (by omega)]
theorem numF_lt (k : Nat) : ∀ (l : List UInt8) (i v n : Nat), numF k l i v = some n → n < (v + 1) * 64 ^ l.length
  | [], i, v, n, h => by simp only [numF, Option.some.injEq] at h; subst h; simp
  | c :: r, i, v, n, h => by
    rw [numF] at h
    have e : 64 ^ (c :: r).length = 64 * 64 ^ r.length := by rw [List.length_cons, Nat.pow_succ, Nat.mul_comm]
    have key : ∀ x, x < 64 → n < (v * 64 + x + 1) * 64 ^ r.length → n < (v + 1) * 64 ^ (c :: r).length := fun x hx hn => by
      rw [e, ← Nat.mul_assoc]
      refine Nat.lt_of_lt_of_le hn (Nat.mul_le_mul_right _ (by omega))
    split at h
    · exact key 0 (by omega) (numF_lt k r _ _ _ h)
    · split at h
      · rename_i m hm
        exact key m (dv_lt hm) (numF_lt k r _ _ _ h)
      · cases h
theorem fdc (n k : Nat) (hk : k ≤ 16) : (n : Int).fdiv (2 ^ (min ((k : Int)).toNat (IntKind.u32.bits))) = ((n / 2 ^ k : Nat) : Int) := by
  have e : min ((k : Int)).toNat (IntKind.u32.bits) = k := by
    show min k 32 = k
    omega
  rw [e, show (2 : Int) ^ k = ((2 ^ k : Nat) : Int) by simp, fdN]
theorem b2s3 (a b c : Nat) (ha : a < 256) (hb : b < 256) (hc : c < 256) : b2s [(a : Int), (b : Int), (c : Int)] = some [UInt8.ofNat a, UInt8.ofNat b, UInt8.ofNat c] := by
  have := b2s_ok [a, b, c] (by simp; omega)
  simpa using this
/-- What four hands back of a number. -/
theorem tF3 (n k : Nat) (hn : n < 16777216) (h2 : 2 ≤ k) (h4 : k ≤ 4) :
    (b2s [(IntKind.u8.wrap ((n : Int).fdiv (2 ^ (min (16 : Int).toNat (IntKind.u32.bits))))), (IntKind.u8.wrap ((n : Int).fdiv (2 ^ (min (8 : Int).toNat (IntKind.u32.bits))))), (IntKind.u8.wrap (n : Int))] >>= fun x9 =>
    cutL x9 0 (wr ((k : Int) - 1)) >>= fun x10 =>
    need (0 ≤ (wr (8 * (wr (4 - (k : Int)))))) >>= fun _ =>
    some (x10, ((bits .and .u32 (n : Int) (IntKind.u32.wrap ((IntKind.u32.wrap (1 * 2 ^ (min (wr (8 * (wr (4 - (k : Int))))).toNat (IntKind.u32.bits)))) - 1))) == 0))) =
    some (([UInt8.ofNat (n / 65536), UInt8.ofNat (n / 256 % 256), UInt8.ofNat (n % 256)] : List UInt8).take (k - 1), decide (n % 2 ^ (8 * (4 - k)) = 0)) := by
  have f16 := fdc n 16 (by omega)
  have f8 := fdc n 8 (by omega)
  rw [show ((16 : Nat) : Int) = 16 from rfl] at f16
  rw [show ((8 : Nat) : Int) = 8 from rfl] at f8
  rw [f16, f8, u8m, u8m, u8m, show n / 2 ^ 16 % 256 = n / 65536 by omega, show n / 2 ^ 8 % 256 = n / 256 % 256 by omega, b2s3 _ _ _ (by omega) (by omega) (by omega), bind_some']
  match k, h2, h4 with
  | 2, _, _ =>
    have a := and65535u n (by omega)
    rw [show wr (((2 : Nat) : Int) - 1) = 1 from by decide, cutL_ok (by omega) (by omega) (by simp), bind_some', need_ok (by decide), bind_some', show IntKind.u32.wrap ((IntKind.u32.wrap (1 * 2 ^ (min (wr (8 * (wr (4 - ((2 : Nat) : Int))))).toNat (IntKind.u32.bits)))) - 1) = 65535 from by decide, a]
    have e : (((n % 65536 : Nat) : Int) == 0) = decide (n % 2 ^ (8 * (4 - 2)) = 0) := by
      rw [show (0 : Int) = ((0 : Nat) : Int) from rfl, Bool.eq_iff_iff, beq_iff_eq, decide_eq_true_iff]
      omega
    rw [e]; rfl
  | 3, _, _ =>
    have a := and255u n (by omega)
    rw [show wr (((3 : Nat) : Int) - 1) = 2 from by decide, cutL_ok (by omega) (by omega) (by simp), bind_some', need_ok (by decide), bind_some', show IntKind.u32.wrap ((IntKind.u32.wrap (1 * 2 ^ (min (wr (8 * (wr (4 - ((3 : Nat) : Int))))).toNat (IntKind.u32.bits)))) - 1) = 255 from by decide, a]
    have e : (((n % 256 : Nat) : Int) == 0) = decide (n % 2 ^ (8 * (4 - 3)) = 0) := by
      rw [show (0 : Int) = ((0 : Nat) : Int) from rfl, Bool.eq_iff_iff, beq_iff_eq, decide_eq_true_iff]
      omega
    rw [e]; rfl
  | 4, _, _ =>
    have a := and0u n (by omega)
    rw [show wr (((4 : Nat) : Int) - 1) = 3 from by decide, cutL_ok (by omega) (by omega) (by simp), bind_some', need_ok (by decide), bind_some', show IntKind.u32.wrap ((IntKind.u32.wrap (1 * 2 ^ (min (wr (8 * (wr (4 - ((4 : Nat) : Int))))).toNat (IntKind.u32.bits)))) - 1) = 0 from by decide, a]
    have e : n % 2 ^ (8 * (4 - 4)) = 0 := by omega
    rw [decide_eq_true e]; rfl
theorem kF_rng (y z : UInt8) (last : Bool) : 2 ≤ kF y z last ∧ kF y z last ≤ 4 := by
  unfold kF; split
  · split <;> omega
  · omega
theorem tFour (w x y z : UInt8) (last : Bool) : ∃ u b, b64_four [w, x, y, z] last = some (u, b) ∧ fourP w x y z last = if b = true then some u else none := by
  have hk := kF_rng y z last
  have h2 := tF2 [w, x, y, z] rfl (kF y z last) 4 0 0 rfl (by omega)
  rw [List.drop_zero, show ((0 : Nat) : Int) = 0 from rfl] at h2
  rw [b64_four, tF1, bind_some', h2, bind_some']
  cases hn : numF (kF y z last) [w, x, y, z] 0 0 with
  | none =>
    refine ⟨[], false, rfl, ?_⟩
    rw [if_neg (by decide)]
    simp only [numF] at hn
    rw [fourP]
    rw [if_neg (by omega)] at hn
    cases hw : dvP w with
    | none => rfl
    | some a =>
      rw [hw] at hn
      simp only at hn
      rw [if_neg (by omega)] at hn
      cases hx : dvP x with
      | none => rfl
      | some b =>
        rw [hx] at hn
        simp only at hn ⊢
        by_cases hl : last = true ∧ z = 61
        · rw [if_pos hl]
          by_cases hy : y = 61
          · have e : kF y z last = 2 := by rw [kF, if_pos hl, if_pos hy]
            rw [e] at hn; simp at hn
          · have e : kF y z last = 3 := by rw [kF, if_pos hl, if_neg hy]
            rw [e] at hn
            rw [if_neg hy]
            cases hd : dvP y with
            | none => rfl
            | some c => rw [hd] at hn; simp at hn
        · have e : kF y z last = 4 := by rw [kF, if_neg hl]
          rw [e] at hn
          rw [if_neg hl]
          cases hd : dvP y with
          | none => rfl
          | some c =>
            rw [hd] at hn
            cases hdz : dvP z with
            | none => rfl
            | some d => rw [hdz] at hn; simp at hn
  | some n =>
    have hlt : n < 16777216 := by have := numF_lt _ _ _ _ _ hn; simpa using this
    simp only
    rw [tF3 n _ hlt hk.1 hk.2]
    refine ⟨_, _, rfl, ?_⟩
    simp only [numF] at hn
    rw [if_neg (by omega)] at hn
    rw [fourP]
    cases hw : dvP w with
    | none => rw [hw] at hn; cases hn
    | some a =>
      rw [hw] at hn
      simp only at hn
      rw [if_neg (by omega)] at hn
      cases hx : dvP x with
      | none => rw [hx] at hn; cases hn
      | some b =>
        have ha := dv_lt hw
        have hb := dv_lt hx
        rw [hx] at hn
        simp only at hn ⊢
        by_cases hl : last = true ∧ z = 61
        · rw [if_pos hl]
          by_cases hy : y = 61
          · have e : kF y z last = 2 := by rw [kF, if_pos hl, if_pos hy]
            rw [e] at hn ⊢
            simp only [show (2 : Nat) ≤ 0 + 1 + 1 from by omega, show (2 : Nat) ≤ 0 + 1 + 1 + 1 from by omega, if_true, Option.some.injEq] at hn
            rw [if_pos hy]
            subst hn
            by_cases h16 : b % 16 = 0
            · rw [if_pos h16, if_pos (decide_eq_true (by omega))]
              simp only [Option.some.injEq]
              show _ = [UInt8.ofNat (_ / 65536)]
              congr 2; omega
            · rw [if_neg h16, if_neg (by rw [decide_eq_true_iff]; omega)]
          · have e : kF y z last = 3 := by rw [kF, if_pos hl, if_neg hy]
            rw [e] at hn ⊢
            rw [if_neg hy]
            cases hd : dvP y with
            | none => rw [hd] at hn; simp at hn
            | some c =>
              have hc := dv_lt hd
              rw [hd] at hn
              simp only [show ¬ (3 : Nat) ≤ 0 + 1 + 1 from by omega, show (3 : Nat) ≤ 0 + 1 + 1 + 1 from by omega, if_true, if_false, Option.some.injEq] at hn
              subst hn
              simp only
              by_cases h4 : c % 4 = 0
              · rw [if_pos h4, if_pos (decide_eq_true (by omega))]
                simp only [Option.some.injEq]
                show _ = [UInt8.ofNat (_ / 65536), UInt8.ofNat (_ / 256 % 256)]
                congr 2
                · omega
                · congr 2; omega
              · rw [if_neg h4, if_neg (by rw [decide_eq_true_iff]; omega)]
        · have e : kF y z last = 4 := by rw [kF, if_neg hl]
          rw [e] at hn ⊢
          rw [if_neg hl]
          cases hd : dvP y with
          | none => rw [hd] at hn; simp at hn
          | some c =>
            have hc := dv_lt hd
            rw [hd] at hn
            cases hdz : dvP z with
            | none => rw [hdz] at hn; simp at hn
            | some d =>
              have hd2 := dv_lt hdz
              rw [hdz] at hn
              simp only [show ¬ (4 : Nat) ≤ 0 + 1 + 1 from by omega, show ¬ (4 : Nat) ≤ 0 + 1 + 1 + 1 from by omega, if_false, Option.some.injEq] at hn
              subst hn
              rw [if_pos (decide_eq_true (by omega))]
              simp only [Option.some.injEq]
              rw [show ((((0 * 64 + a) * 64 + b) * 64 + c) * 64 + d) / 65536 = a * 4 + b / 16 by omega, show ((((0 * 64 + a) * 64 + b) * 64 + c) * 64 + d) / 256 % 256 = b % 16 * 16 + c / 4 by omega, show ((((0 * 64 + a) * 64 + b) * 64 + c) * 64 + d) % 256 = c % 4 * 64 + d by omega]
              rfl
theorem fourP_len {w x y z : UInt8} {last : Bool} {u : List UInt8} (h : fourP w x y z last = some u) : u.length ≤ 3 := by
  rw [fourP] at h
  split at h
  · split at h
    · split at h
      · split at h
        · cases h; simp
        · cases h
      · split at h
        · split at h
          · cases h; simp
          · cases h
        · cases h
    · split at h
      · cases h; simp
      · cases h
  · cases h
theorem tD1 (s : List UInt8) (hs : s.length ≤ 1000000) : ∀ n k : Nat, s.length - k ≤ n → k ≤ s.length → (s.length - k) % 4 = 0 → ∀ (f : Bool) (A : List UInt8), A.length ≤ k →
    (∃ f' t, decP (s.drop k) = some t ∧ b64_Decode_L1 s (k : Int) f (s2b A) = some (.inl (f', s2b (A ++ t)))) ∨ (∃ o, decP (s.drop k) = none ∧ b64_Decode_L1 s (k : Int) f (s2b A) = some (.inr o)) := by
  intro n
  induction n with
  | zero =>
    intro k h1 h2 _ f A _
    obtain rfl : k = s.length := by omega
    refine .inl ⟨f, [], by rw [List.drop_length]; rfl, ?_⟩
    rw [b64_Decode_L1, ltI, decide_eq_false (by omega), if_neg (by decide), List.append_nil]
  | succ n ih =>
    intro k h1 h2 h4 f A hA
    by_cases hk : k = s.length
    · subst hk
      refine .inl ⟨f, [], by rw [List.drop_length]; rfl, ?_⟩
      rw [b64_Decode_L1, ltI, decide_eq_false (by omega), if_neg (by decide), List.append_nil]
    · have hk4 : k + 4 ≤ s.length := by omega
      obtain ⟨w, x, y, z, r, hd⟩ : ∃ w x y z r, s.drop k = w :: x :: y :: z :: r := by
        have hl : (s.drop k).length = s.length - k := List.length_drop
        match hq : s.drop k with
        | [] => rw [hq] at hl; simp at hl; omega
        | [a] => rw [hq] at hl; simp at hl; omega
        | [a, b] => rw [hq] at hl; simp at hl; omega
        | [a, b, c] => rw [hq] at hl; simp at hl; omega
        | w :: x :: y :: z :: r => exact ⟨w, x, y, z, r, rfl⟩
      have hr : s.drop (k + 4) = r := by rw [← List.drop_drop, hd]; rfl
      have e4 : wr ((k : Int) + 4) = ((k + 4 : Nat) : Int) := by rw [wr_in (by omega) (by omega)]; rfl
      have ec : (s.take (k + 4)).drop k = [w, x, y, z] := by
        rw [List.drop_take, show k + 4 - k = 4 by omega, hd]; rfl
      have elast : ((((k + 4 : Nat) : Int)) == (s.length : Int)) = r.isEmpty := by
        have hl : r.length = s.length - (k + 4) := by rw [← hr, List.length_drop]
        rw [eqN' (k + 4) s.length]
        cases r with
        | nil => simp at hl; rw [beq_iff_eq.2 (by omega)]; rfl
        | cons c r => rw [List.length_cons] at hl; rw [beq_eq_false_iff_ne.2 (by omega)]; rfl
      obtain ⟨u, b, hu, hf⟩ := tFour w x y z r.isEmpty
      rw [b64_Decode_L1, ltI, decide_eq_true (by omega), if_pos rfl, e4, cutL_ok (by omega) (by omega) (by omega), bind_some', Int.toNat_natCast, Int.toNat_natCast, ec, elast, hu, bind_some', hd, decP, hf]
      cases b with
      | false =>
        rw [if_neg (by decide)]
        refine .inr ⟨(f, s2b A), by simp [app2], ?_⟩
        rfl
      | true =>
        rw [if_pos rfl] at hf ⊢
        have hul := fourP_len hf
        simp only [Bool.not_true, Bool.false_eq_true, if_false]
        rw [ws5 _ _ _ (by rw [s2b_len]; omega), bind_some', ← s2b_app]
        rcases ih (k + 4) (by omega) (by omega) (by omega) true (A ++ u) (by rw [List.length_append]; omega) with ⟨f', t, g1, g2⟩ | ⟨o, g1, g2⟩
        · rw [hr] at g1
          refine .inl ⟨f', u ++ t, by rw [g1]; rfl, ?_⟩
          simp only
          rw [g2, List.append_assoc]
        · rw [hr] at g1
          refine .inr ⟨o, by rw [g1]; rfl, ?_⟩
          simp only
          rw [g2]
theorem tDec (s : List UInt8) (hs : s.length ≤ 1000000) : b64_Decode s = some (match decP s with | some t => (t, 0) | none => ([], 7)) := by
  have em : ((s.length : Int).tmod 4 != 0) = !(decide (s.length % 4 = 0)) := by
    rw [show (4 : Int) = ((4 : Nat) : Int) from rfl, tm]
    by_cases h : s.length % 4 = 0
    · rw [decide_eq_true h, h]; rfl
    · rw [decide_eq_false h]
      show (!((((s.length % 4 : Nat) : Int)) == 0)) = true
      rw [beq_eq_false_iff_ne.2 (by omega)]; rfl
  rw [b64_Decode, em]
  by_cases h : s.length % 4 = 0
  · rw [decide_eq_true h]
    simp only [Bool.not_true, Bool.false_eq_true, if_false]
    have hd := tD1 s hs s.length 0 (by omega) (by omega) (by omega) false [] (by simp)
    rw [List.drop_zero] at hd
    have e0 : s2b ([] : List UInt8) = [] := rfl
    rw [e0, show ((0 : Nat) : Int) = 0 from rfl] at hd
    rcases hd with ⟨f', t, g1, g2⟩ | ⟨o, g1, g2⟩
    · rw [g2, bind_some', g1]
      simp only
      rw [sstr4]; rfl
    · rw [g2, bind_some', g1]
  · rw [decide_eq_false h]
    simp only [Bool.not_false, if_true]
    cases hd : decP s with
    | none => rfl
    | some t =>
      have e := congrArg List.length (enc_dec s t hd)
      rw [encP_len] at e
      omega
end Go.Proofs.YtagokkpnfceidaaDoor
end

section
namespace Go.Proofs.YtagokkpnfceidaaDoor
open Go.RowKit

def iL (l : List Nat) : List Int := l.map fun x : Nat => (x : Int)
theorem iL_len (a : List Nat) : (iL a).length = a.length := by simp [iL]
end Go.Proofs.YtagokkpnfceidaaDoor
end

section
namespace Go.Proofs.YtagokkpnfceidaaDoor
open Go.RowKit

def wordOK (w : List UInt8) : Prop := 1 ≤ w.length ∧ w.length ≤ 72 ∧ ∀ c ∈ w, 33 ≤ c.toNat ∧ c.toNat ≤ 126
theorem clean_mid : ∀ (p x : List UInt8), cleanP (p ++ x) = true → x ≠ [] → eqq x = false
  | [], x, h, hx => by
    cases x with
    | nil => exact absurd rfl hx
    | cons c r =>
      simp only [List.nil_append, cleanP, Bool.and_eq_true] at h
      have := h.2.1
      revert this
      cases eqq (c :: r) <;> simp
  | c :: p, x, h, hx => by
    simp only [List.cons_append, cleanP, Bool.and_eq_true] at h
    exact clean_mid p x h.2.2 hx
theorem clean_shown : ∀ (l : List UInt8), cleanP l = true → ∀ c ∈ l, 32 ≤ c.toNat ∧ c.toNat ≤ 126
  | [], _, c, h => by simp at h
  | a :: l, h, c, hc => by
    simp only [cleanP, shownB, Bool.and_eq_true, decide_eq_true_eq] at h
    rcases List.mem_cons.1 hc with rfl | hc
    · exact h.1
    · exact clean_shown l h.2.2 c hc
theorem cutS_infix (b : UInt8) : ∀ l : List UInt8, ∀ w ∈ cutS b l, ∃ p q, l = p ++ (w ++ q)
  | [], w, hw => by simp only [cutS, List.mem_singleton] at hw; subst hw; exact ⟨[], [], rfl⟩
  | a :: t, w, hw => by
    have tl : ∀ w ∈ cutS b t, ∃ p q, a :: t = p ++ (w ++ q) := fun w hw => by
      obtain ⟨p, q, e⟩ := cutS_infix b t w hw
      exact ⟨a :: p, q, by rw [List.cons_append, ← e]⟩
    rw [cutS] at hw
    split at hw
    · rcases List.mem_cons.1 hw with rfl | hw
      · exact ⟨[], a :: t, rfl⟩
      · exact tl w hw
    · split at hw
      · rename_i x r hcut
        rcases List.mem_cons.1 hw with rfl | hw
        · have e := cutS_join b t x r hcut
          exact ⟨[], r.flatMap (fun w => b :: w), by rw [List.nil_append, List.cons_append, e]⟩
        · exact tl w (by rw [hcut]; simp [hw])
      · simp only [List.mem_singleton] at hw
        subst hw
        exact ⟨[], t, rfl⟩
theorem toNat_ne {c : UInt8} {k : Nat} (_ : k < 256) (h : c ≠ UInt8.ofNat k) : c.toNat ≠ k := by
  intro e
  apply h
  rw [← e, UInt8.ofNat_toNat]
theorem plain_words {v : List UInt8} (h : plainF 0 v = true) : ∀ w ∈ cutS 32 v, wordOK w ∧ eqq w = false := by
  rw [plain_cut, Bool.and_eq_true, List.all_eq_true] at h
  intro w hw
  have hs := h.1 w hw
  simp only [sizeB, Bool.and_eq_true, decide_eq_true_eq] at hs
  refine ⟨⟨hs.1, by omega, fun c hc => ?_⟩, ?_⟩
  · obtain ⟨h1, h2⟩ := cutS_mem 32 v w hw c hc
    have := clean_shown v h.2 c h1
    have h3 : c.toNat ≠ 32 := toNat_ne (by omega) h2
    omega
  · obtain ⟨p, q, e⟩ := cutS_infix 32 v w hw
    have hne : w ++ q ≠ [] := by
      intro e2
      have := congrArg List.length e2
      simp at this
      have := hs.1
      simp_all
    have h2 := h.2
    rw [e] at h2
    have := clean_mid p (w ++ q) h2 hne
    match w, this with
    | [], _ => rfl
    | [a], h => simp [eqq, List.isPrefixOf]
    | a :: b :: r, h => simpa [eqq, List.isPrefixOf] using h
theorem coded_len (g : List UInt8) : (codedP g).length = 12 + 4 * ((g.length + 2) / 3) := by
  unfold codedP frontB
  simp only [List.length_append, List.length_cons, List.length_nil, encP_len]
  omega
theorem coded_ok {g : List UInt8} (h : g.length ≤ 45) : wordOK (codedP g) := by
  have hl := coded_len g
  refine ⟨by omega, by omega, fun c hc => ?_⟩
  unfold codedP at hc
  rcases List.mem_append.1 hc with hc | hc
  · rcases List.mem_append.1 hc with hc | hc
    · have : ∀ c ∈ frontB, 33 ≤ c.toNat ∧ c.toNat ≤ 126 := by decide
      exact this c hc
    · exact encP_shown g c hc
  · have : ∀ c ∈ ([63, 61] : List UInt8), 33 ≤ c.toNat ∧ c.toNat ≤ 126 := by decide
    exact this c hc
theorem plainP_ne {v : List UInt8} (h0 : v ≠ []) : plainP v = plainF 0 v := by
  unfold plainP
  rw [beq_eq_false_iff_ne.2 h0]; rfl
theorem groups_ok (v : List UInt8) : ∀ g ∈ groupsP [] ((runesP v).map rb4), g.length ≤ 45 :=
  groups_len _ _ (by simp) (fun b hb => by obtain ⟨n, _, rfl⟩ := List.mem_map.1 hb; exact (rb4_len n).1)
theorem words_ok (v : List UInt8) : ∀ w ∈ wordsP v, wordOK w := by
  intro w hw
  unfold wordsP at hw
  split at hw
  · simp at hw
  · rename_i h0
    split at hw
    · rename_i hp
      rw [plainP_ne h0] at hp
      exact (plain_words hp w hw).1
    · obtain ⟨g, hg, rfl⟩ := List.mem_map.1 hw
      exact coded_ok (groups_ok v g hg)

def lputP (o : List UInt8 × Nat) (w : List UInt8) : List UInt8 × Nat :=
  if 76 ≤ o.2 + w.length then (o.1 ++ ([13, 10] ++ 32 :: w), 1 + w.length) else (o.1 ++ 32 :: w, o.2 + (1 + w.length))
def writeP (n v : List UInt8) : Option (List UInt8) :=
  if nameP n = true then some (((wordsP v).foldl lputP (n ++ [58], n.length + 1)).1 ++ [13, 10]) else none
def layF : Nat → List (List UInt8) → List UInt8
  | _, [] => []
  | k, w :: r => if 76 ≤ k + w.length then 13 :: 10 :: 32 :: (w ++ layF (1 + w.length) r) else 32 :: (w ++ layF (k + (1 + w.length)) r)
theorem layFold : ∀ (ws : List (List UInt8)) (o : List UInt8 × Nat), (ws.foldl lputP o).1 = o.1 ++ layF o.2 ws
  | [], o => by simp [layF]
  | w :: r, o => by
    rw [List.foldl_cons, layFold r, lputP, layF]
    split <;> simp
theorem name_mem {n : List UInt8} (h : nameP n = true) : 1 ≤ n.length ∧ n.length ≤ 32 ∧ ∀ c ∈ n, 33 ≤ c.toNat ∧ c.toNat ≤ 126 ∧ c.toNat ≠ 58 := by
  simp only [nameP, Bool.and_eq_true, decide_eq_true_eq, List.all_eq_true] at h
  refine ⟨?_, h.2.1, fun c hc => ?_⟩
  · cases n with
    | nil => simp at h
    | cons a r => simp
  · have := h.2.2 c hc
    simp only [nameB, Bool.or_eq_true, Bool.and_eq_true, decide_eq_true_eq, beq_iff_eq] at this
    rcases this with h1 | h1 | h1 | h1
    · omega
    · omega
    · omega
    · subst h1; decide

def okBreak : List UInt8 → Bool
  | [a, b] => a == 13 && b == 10
  | a :: b :: c :: _ => a == 13 && (b == 10 && c == 32)
  | _ => false
def linesF : Bool → Nat → List UInt8 → Bool
  | _, k, [] => k == 0
  | true, k, _ :: r => linesF false k r
  | false, k, c :: r => if c = 13 ∨ c = 10 then (if okBreak (c :: r) = true then linesF true 0 r else false)
    else if 76 < k + 1 ∨ c.toNat < 32 ∨ 126 < c.toNat then false else linesF false (k + 1) r
theorem shown_ne {c : UInt8} (h : 32 ≤ c.toNat) : c ≠ 13 ∧ c ≠ 10 := by
  constructor
  · rintro rfl; exact absurd h (by decide)
  · rintro rfl; exact absurd h (by decide)
theorem lines_app (b : List UInt8) : ∀ (a : List UInt8) (k : Nat), (∀ c ∈ a, 32 ≤ c.toNat ∧ c.toNat ≤ 126) → k + a.length ≤ 76 → linesF false k (a ++ b) = linesF false (k + a.length) b
  | [], k, _, _ => rfl
  | c :: a, k, h, hk => by
    have hc := h c (by simp)
    have hn := shown_ne hc.1
    rw [List.length_cons] at hk
    rw [List.cons_append, linesF, if_neg (fun e => e.elim hn.1 hn.2), if_neg (by omega), lines_app b a (k + 1) (fun x hx => h x (by simp [hx])) (by omega), List.length_cons, show k + 1 + a.length = k + (a.length + 1) by omega]
theorem lines_lay : ∀ (ws : List (List UInt8)) (k : Nat), k ≤ 76 → (∀ w ∈ ws, wordOK w) → linesF false k (layF k ws ++ [13, 10]) = true
  | [], k, hk, _ => by
    show linesF false k [13, 10] = true
    rw [linesF, if_pos (.inl rfl), if_pos (by decide : okBreak [13, 10] = true)]
    rfl
  | w :: r, k, hk, h => by
    obtain ⟨w1, w2, w3⟩ := h w (by simp)
    have hr : ∀ w ∈ r, wordOK w := fun x hx => h x (by simp [hx])
    have hw : ∀ c ∈ (32 : UInt8) :: w, 32 ≤ c.toNat ∧ c.toNat ≤ 126 := fun c hc => by
      rcases List.mem_cons.1 hc with rfl | hc
      · decide
      · have := w3 c hc; omega
    rw [layF]
    split
    · have e1 : linesF false k (13 :: 10 :: 32 :: (w ++ layF (1 + w.length) r) ++ [13, 10]) = linesF false 0 ((32 :: w) ++ (layF (1 + w.length) r ++ [13, 10])) := by
        simp only [List.cons_append, List.append_assoc]
        have hb : ∀ z : List UInt8, okBreak (13 :: 10 :: 32 :: z) = true := fun _ => by simp [okBreak]
        rw [linesF, if_pos (.inl rfl), if_pos (hb _), linesF]
      rw [e1, lines_app _ _ 0 hw (by simp; omega), List.length_cons, Nat.zero_add, Nat.add_comm]
      exact lines_lay r _ (by omega) hr
    · have e1 : 32 :: (w ++ layF (k + (1 + w.length)) r) ++ [13, 10] = (32 :: w) ++ (layF (k + (1 + w.length)) r ++ [13, 10]) := by simp
      rw [e1, lines_app _ _ k hw (by simp; omega), List.length_cons, Nat.add_comm w.length 1]
      exact lines_lay r _ (by omega) hr
theorem lines_write {n v s : List UInt8} (h : writeP n v = some s) : linesF false 0 s = true := by
  unfold writeP at h
  split at h
  · rename_i hn
    rw [layFold, Option.some.injEq] at h
    subst h
    obtain ⟨n1, n2, n3⟩ := name_mem hn
    rw [List.append_assoc (n ++ [58]), lines_app _ _ 0 (fun c hc => ?_) (by simp; omega)]
    · simp only [List.length_append, List.length_cons, List.length_nil, Nat.zero_add]
      exact lines_lay _ _ (by omega) (words_ok v)
    · rcases List.mem_append.1 hc with hc | hc
      · have := n3 c hc; omega
      · simp only [List.mem_singleton] at hc; subst hc; decide
  · cases h

def blankB (c : UInt8) : Bool := c == 32 || c == 9
def breakB : List UInt8 → Bool
  | a :: b :: c :: _ => a == 13 && (b == 10 && blankB c)
  | _ => false
def consO (c : UInt8) : Option (List UInt8) → Option (List UInt8)
  | some l => some (c :: l)
  | none => none
def lineF : Bool → List UInt8 → Option (List UInt8)
  | _, [] => some []
  | true, _ :: r => lineF false r
  | false, c :: r => if breakB (c :: r) = true then lineF true r else if c = 13 ∨ c = 10 then none else consO c (lineF false r)
def colP : List UInt8 → Option (List UInt8 × List UInt8)
  | [] => none
  | c :: r => if c = 58 then some ([], r) else match colP r with
    | some p => some (c :: p.1, p.2)
    | none => none
def tabB (c : UInt8) : UInt8 := if c = 9 then 32 else c
def fullB (w : List UInt8) : Bool := !(w == [])
def piecesP (l : List UInt8) : List (List UInt8) := (cutS 32 (l.map tabB)).filter fullB
def inP (w : List UInt8) : Option (List UInt8) := if 12 ≤ w.length ∧ w.take 10 = frontB ∧ w.drop (w.length - 2) = [63, 61] then some ((w.take (w.length - 2)).drop 10) else none
def decodedP (w : List UInt8) : Option (List UInt8) := match inP w with
  | some i => (match decP i with
    | some t => if utfF t.length t = true then some t else none
    | none => none)
  | none => none
def stepV (o : List UInt8 × (Bool × Bool)) (w : List UInt8) : List UInt8 × (Bool × Bool) :=
  match decodedP w with
  | some t => (o.1 ++ ((if o.2.1 = true ∧ o.2.2 = false then [32] else []) ++ t), (true, true))
  | none => (o.1 ++ ((if o.2.1 = true then [32] else []) ++ w), (true, false))
def valueP (ws : List (List UInt8)) : List UInt8 := (ws.foldl stepV ([], (false, false))).1
def cutCR (s : List UInt8) : Option (List UInt8) := if 2 ≤ s.length ∧ s.drop (s.length - 2) = [13, 10] then some (s.take (s.length - 2)) else none
def readP (s : List UInt8) : Option (List UInt8 × List UInt8) := match cutCR s with
  | none => none
  | some a => match lineF false a with
    | none => none
    | some l => match colP l with
      | none => none
      | some p => if nameP p.1 = true then some (p.1, valueP (piecesP p.2)) else none
theorem cutCR_app (a : List UInt8) : cutCR (a ++ [13, 10]) = some a := by
  unfold cutCR
  have e : (a ++ [13, 10]).length - 2 = a.length := by simp
  rw [e, List.drop_left, List.take_left, if_pos ⟨by simp, rfl⟩]
theorem line_app (b : List UInt8) : ∀ a : List UInt8, (∀ c ∈ a, 32 ≤ c.toNat) → lineF false (a ++ b) = match lineF false b with
    | some l => some (a ++ l)
    | none => none
  | [], _ => by rw [List.nil_append]; cases lineF false b <;> rfl
  | c :: a, h => by
    have hc := h c (by simp)
    have hn := shown_ne hc
    have hb : breakB (c :: (a ++ b)) = false := by
      have : (c == 13) = false := by simpa using hn.1
      unfold breakB
      split
      · rename_i heq; simp only [List.cons.injEq] at heq; rw [← heq.1, this]; rfl
      · rfl
    rw [List.cons_append, lineF, hb, if_neg (by decide), if_neg (fun e => e.elim hn.1 hn.2), line_app b a (fun x hx => h x (by simp [hx]))]
    cases lineF false b <;> rfl
theorem line_lay : ∀ (ws : List (List UInt8)) (k : Nat), (∀ w ∈ ws, wordOK w) → lineF false (layF k ws) = some (ws.flatMap (fun w => 32 :: w))
  | [], _, _ => rfl
  | w :: r, k, h => by
    obtain ⟨w1, w2, w3⟩ := h w (by simp)
    have hr : ∀ w ∈ r, wordOK w := fun x hx => h x (by simp [hx])
    have hw : ∀ c ∈ (32 : UInt8) :: w, 32 ≤ c.toNat := fun c hc => by
      rcases List.mem_cons.1 hc with rfl | hc
      · decide
      · have := w3 c hc; omega
    have key : ∀ k', lineF false (32 :: (w ++ layF k' r)) = some ((w :: r).flatMap (fun w => 32 :: w)) := fun k' => by
      rw [show 32 :: (w ++ layF k' r) = (32 :: w) ++ layF k' r by simp, line_app _ _ hw, line_lay r k' hr]
      simp
    rw [layF]
    split
    · have hb : ∀ z : List UInt8, breakB (13 :: 10 :: 32 :: z) = true := fun _ => by simp [breakB, blankB]
      rw [lineF, if_pos (hb _), lineF]
      exact key _
    · exact key _
theorem col_app (b : List UInt8) : ∀ a : List UInt8, (58 : UInt8) ∉ a → colP (a ++ 58 :: b) = some (a, b)
  | [], _ => by rw [List.nil_append, colP, if_pos rfl]
  | c :: a, h => by
    simp only [List.mem_cons, not_or] at h
    rw [List.cons_append, colP, if_neg (fun e => h.1 e.symm), col_app b a h.2]
theorem col_none : ∀ a : List UInt8, (58 : UInt8) ∉ a → colP a = none
  | [], _ => rfl
  | c :: a, h => by
    simp only [List.mem_cons, not_or] at h
    rw [colP, if_neg (fun e => h.1 e.symm), col_none a h.2]
theorem tab_id : ∀ l : List UInt8, (9 : UInt8) ∉ l → l.map tabB = l
  | [], _ => rfl
  | c :: l, h => by
    simp only [List.mem_cons, not_or] at h
    rw [List.map_cons, tab_id l h.2, tabB, if_neg (fun e => h.1 e.symm)]
theorem cut_words : ∀ ws : List (List UInt8), (∀ w ∈ ws, (32 : UInt8) ∉ w) → cutS 32 (ws.flatMap (fun w => 32 :: w)) = [] :: ws
  | [], _ => rfl
  | w :: r, h => by
    have hw := h w (by simp)
    have ih := cut_words r (fun x hx => h x (by simp [hx]))
    rw [List.flatMap_cons, List.cons_append, cutS, if_pos (beq_self_eq_true _)]
    cases r with
    | nil => rw [List.flatMap_nil, List.append_nil, cutS_free 32 w hw]
    | cons x t =>
      rw [List.flatMap_cons, List.cons_append, cutS, if_pos (beq_self_eq_true _)] at ih
      simp only [List.cons.injEq, true_and] at ih
      rw [List.flatMap_cons, List.cons_append, cutS_at 32 _ w hw, ih]
theorem pieces_words (ws : List (List UInt8)) (h : ∀ w ∈ ws, wordOK w) : piecesP (ws.flatMap (fun w => 32 :: w)) = ws := by
  unfold piecesP
  rw [tab_id, cut_words ws]
  · rw [List.filter_cons_of_neg (by simp [fullB]), List.filter_eq_self]
    intro w hw
    have := (h w hw).1
    cases w with
    | nil => simp at this
    | cons a r => rfl
  · intro w hw hc
    have := (h w hw).2.2 32 hc
    exact absurd this.1 (by decide)
  · intro hm
    obtain ⟨w, hw, hm⟩ := List.mem_flatMap.1 hm
    rcases List.mem_cons.1 hm with e | hm
    · exact absurd e (by decide)
    · have := (h w hw).2.2 9 hm
      exact absurd this.1 (by decide)
theorem decoded_coded {g : List UInt8} (h : okU g) : decodedP (codedP g) = some g := by
  have e1 : (codedP g).take 10 = frontB := by
    unfold codedP
    rw [List.append_assoc, List.take_append_of_le_length (by decide)]
    rfl
  have hl : (codedP g).length - 2 = (frontB ++ encP g).length := by unfold codedP; simp only [List.length_append, List.length_cons, List.length_nil]; omega
  have e2 : (codedP g).drop ((codedP g).length - 2) = [63, 61] := by
    rw [hl]; unfold codedP; rw [List.drop_left]
  have e3 : ((codedP g).take ((codedP g).length - 2)).drop 10 = encP g := by
    rw [hl]; unfold codedP; rw [List.take_left]
    exact List.drop_left (l₁ := frontB)
  have h12 : 12 ≤ (codedP g).length := by rw [coded_len]; omega
  unfold decodedP inP
  rw [if_pos ⟨h12, e1, e2⟩, e3]
  simp only [dec_enc, if_pos h]
theorem decoded_plain {w : List UInt8} (h : eqq w = false) : decodedP w = none := by
  unfold decodedP inP
  rw [if_neg]
  rintro ⟨h1, h2, h3⟩
  match w, h, h2, h1 with
  | [], _, h2, h1 => simp at h1
  | [a], _, h2, h1 => simp at h1
  | a :: b :: r, h, h2, _ =>
    simp only [frontB, List.take_succ_cons, List.cons.injEq] at h2
    rw [h2.1, h2.2.1] at h
    simp [eqq, List.isPrefixOf] at h
theorem value_plain : ∀ (ws : List (List UInt8)) (a : List UInt8) (b : Bool), (∀ w ∈ ws, decodedP w = none) → (ws.foldl stepV (a, (true, b))).1 = a ++ ws.flatMap (fun w => 32 :: w)
  | [], a, b, _ => by simp
  | w :: r, a, b, h => by
    rw [List.foldl_cons, stepV, h w (by simp)]
    simp only [if_true]
    rw [value_plain r _ _ (fun x hx => h x (by simp [hx]))]
    simp
theorem value_coded : ∀ (gs : List (List UInt8)) (a : List UInt8), (∀ g ∈ gs, okU g) → ((gs.map codedP).foldl stepV (a, (true, true))).1 = a ++ gs.flatten
  | [], a, _ => by simp
  | g :: r, a, h => by
    rw [List.map_cons, List.foldl_cons, stepV, decoded_coded (h g (by simp))]
    simp only [Bool.true_eq_false, and_false, if_false, List.nil_append]
    rw [value_coded r _ (fun x hx => h x (by simp [hx]))]
    simp
theorem value_words (v : List UInt8) : valueP (wordsP v) = if plainP v = true then v else wholeP v := by
  unfold wordsP
  by_cases h0 : v = []
  · subst h0; rw [if_pos rfl]; rfl
  rw [if_neg h0]
  by_cases hp : plainP v = true
  · rw [if_pos hp, if_pos hp]
    rw [plainP_ne h0] at hp
    have hw := plain_words hp
    cases hc : cutS 32 v with
    | nil => exact absurd hc (cutS_ne _ _)
    | cons x r =>
      rw [hc] at hw
      unfold valueP
      rw [List.foldl_cons, stepV, decoded_plain (hw x (by simp)).2]
      simp only [Bool.false_eq_true, if_false, List.nil_append]
      rw [value_plain r x false (fun w h => decoded_plain (hw w (by simp [h])).2)]
      exact cutS_join 32 v x r hc
  · rw [if_neg hp, if_neg hp]
    have hj := groups_join ((runesP v).map rb4) []
    have hu := groups_runed (runesP v) [] .nil (runesF_rune _ _)
    cases hg : groupsP [] ((runesP v).map rb4) with
    | nil => rw [hg] at hj; exact hj
    | cons g r =>
      rw [hg] at hj hu
      unfold valueP
      rw [List.map_cons, List.foldl_cons, stepV, decoded_coded (hu g (by simp)).okU]
      simp only [Bool.false_eq_true, false_and, if_false, List.nil_append]
      rw [value_coded r g (fun x hx => (hu x (by simp [hx])).okU)]
      rw [List.flatten_cons, List.nil_append] at hj
      rw [hj]; rfl
theorem back {n v s : List UInt8} (h : writeP n v = some s) : readP s = some (n, if plainP v = true then v else wholeP v) := by
  unfold writeP at h
  split at h
  · rename_i hn
    rw [layFold, Option.some.injEq] at h
    subst h
    obtain ⟨n1, n2, n3⟩ := name_mem hn
    have hc : (58 : UInt8) ∉ n := fun e => (n3 58 e).2.2 rfl
    have hs : ∀ c ∈ n ++ [58], 32 ≤ c.toNat := fun c hc => by
      rcases List.mem_append.1 hc with hc | hc
      · have := n3 c hc; omega
      · simp only [List.mem_singleton] at hc; subst hc; decide
    unfold readP
    rw [cutCR_app]
    simp only
    rw [line_app _ _ hs, line_lay _ _ (words_ok v)]
    simp only
    rw [List.append_assoc, List.singleton_append, col_app _ n hc]
    simp only
    rw [if_pos hn, pieces_words _ (words_ok v), value_words]
  · cases h
end Go.Proofs.YtagokkpnfceidaaDoor
end

section
namespace Go.Proofs.YtagokkpnfceidaaDoor
open Go.RowKit

theorem cutC_eq (b : UInt8) : ∀ l, cutC b l = cutS b l
  | [] => rfl
  | a :: t => by
    rw [cutC, cutS, cutC_eq b t]
    cases (a == b) <;> cases cutS b t <;> rfl
theorem tCut (b : UInt8) (l : List UInt8) (h : l.length ≤ 1000000) : octet_Cut l (b.toNat : Int) = some (cutS b l) := by
  rw [octet_Cut, need_ok (by omega), bind_some', cutC_eq]
  simp
theorem hasPre (l p : List UInt8) : internal_stringslite_HasPrefix l p = some (p.isPrefixOf l) := by
  rw [internal_stringslite_HasPrefix]
  have key : p.isPrefixOf l = decide (p.length ≤ l.length ∧ l.take p.length = p) := by
    rw [Bool.eq_iff_iff, List.isPrefixOf_iff_prefix, decide_eq_true_iff, List.prefix_iff_eq_take]
    constructor
    · intro h
      have := congrArg List.length h
      rw [List.length_take] at this
      exact ⟨by omega, h.symm⟩
    · intro h; exact h.2.symm
  rw [key]
  by_cases h : p.length ≤ l.length
  · rw [decide_eq_true (show (l.length : Int) ≥ (p.length : Int) by omega), if_pos rfl, cutL_ok (by omega) (by omega) (by omega), bind_some', bind_some']
    have e : (l.take ((p.length : Nat) : Int).toNat).drop (0 : Int).toNat = l.take p.length := by rw [Int.toNat_natCast]; rfl
    rw [e]
    by_cases h2 : l.take p.length = p
    · rw [decide_eq_true ⟨h, h2⟩, h2, beq_self_eq_true]
    · rw [decide_eq_false (fun e => h2 e.2), beq_eq_false_iff_ne.2 h2]
  · rw [decide_eq_false (show ¬ (l.length : Int) ≥ (p.length : Int) by omega), if_neg (by decide), bind_some', decide_eq_false (fun e => h e.1)]
theorem tBegins (s : List UInt8) (p : List UInt8) (k : Nat) (hk : k ≤ s.length) : octet_Begins s p (k : Int) = some (p.isPrefixOf (s.drop k)) := by
  rw [octet_Begins, decide_eq_true (show (k : Int) ≥ 0 by omega), if_pos rfl, decide_eq_true (show (k : Int) ≤ (s.length : Int) by omega), if_pos rfl, cutL_ok (by omega) (by omega) (by omega), bind_some', strings_HasPrefix, Int.toNat_natCast, Int.toNat_natCast, List.take_length, hasPre]
  rfl
def nameE (x : Int) : Option Bool :=  if (decide ((bits .or .u8 x 32) < 97)) then
        if (decide (x < 48)) then
          some (x != 45)
        else
          if (decide (x > 57)) then
            some (x != 45)
          else
            some false
      else
        if (decide ((bits .or .u8 x 32) > 122)) then
          if (decide (x < 48)) then
            some (x != 45)
          else
            if (decide (x > 57)) then
              some (x != 45)
            else
              some false
        else
          some false 
theorem nameEF : ∀ c : Fin 256, nameE ((c.1 : Nat) : Int) = some (!nameB (UInt8.ofNat c.1)) := by decide +kernel
theorem nameE_ok (c : UInt8) : nameE (c.toNat : Int) = some (!nameB c) := by
  have := nameEF ⟨c.toNat, c.toNat_lt⟩
  simp only [UInt8.ofNat_toNat] at this
  exact this
theorem tNameL (s : List UInt8) (hs : s.length ≤ 1000000) : ∀ k, k ≤ s.length → fold_name_L1 s (k : Int) = some (if (s.drop k).all nameB = true then .inl () else .inr ()) := by
  refine upto ?_ fun k hk ih => ?_
  · rw [fold_name_L1, ltI, decide_eq_false (by omega), if_neg (by decide), List.drop_length]; rfl
  · have e := nameE_ok s[k]
    unfold nameE at e
    rw [fold_name_L1, ltI, decide_eq_true hk, if_pos rfl, idx_nat, getE hk, bind_some', e, bind_some', wr_succ (by omega), ih, dropE hk, List.all_cons]
    cases nameB s[k] <;> rfl
theorem tName (s : List UInt8) (hs : s.length ≤ 1000000) : fold_name s = some (nameP s) := by
  have h := tNameL s hs 0 (by omega)
  have e := leN s.length 32
  rw [List.drop_zero, show ((0 : Nat) : Int) = 0 from rfl] at h
  rw [show ((32 : Nat) : Int) = 32 from rfl] at e
  rw [fold_name, h, bind_some', nameP, e]
  cases s.all nameB with
  | false => simp
  | true => cases (s == []) <;> cases decide (s.length ≤ 32) <;> rfl
theorem eqI (a b : Nat) : ((a : Int) == (b : Int)) = decide (a = b) := by
  rw [eqN']
  by_cases h : a = b
  · subst h; simp
  · rw [beq_eq_false_iff_ne.2 h, decide_eq_false h]
theorem eq32 (c : UInt8) : ((c.toNat : Int) == 32) = decide (c = 32) := eqC c 32 (by omega)
theorem gtI' (a b : Nat) : decide ((a : Int) > (b : Int)) = decide (b < a) := ltI b a
theorem tPlainL (s : List UInt8) (hs : s.length ≤ 1000000) : ∀ k, k ≤ s.length → ∀ j : Nat, j ≤ 60 → ∃ o, fold_Plain_L1 s (j : Int) (k : Int) = some o ∧ (match o with | .inl y => decide (y > 0) | .inr _ => false) = plainF j (s.drop k) := by
  refine upto ?_ fun k hk ih => ?_
  · intro j hj
    refine ⟨.inl (j : Int), by rw [fold_Plain_L1, ltI, decide_eq_false (by omega), if_neg (by decide)], ?_⟩
    rw [List.drop_length, plainF]
    simp only
    exact gtI' j 0
  · intro j hj
    have l32 := ltI s[k].toNat 32
    have g126 := gtI' s[k].toNat 126
    have ej := eqI j 0
    rw [show ((32 : Nat) : Int) = 32 from rfl] at l32
    rw [show ((126 : Nat) : Int) = 126 from rfl] at g126
    rw [show ((0 : Nat) : Int) = 0 from rfl] at ej
    have hb := tBegins s [61, 63] k (by omega)
    have hq : ([61, 63] : List UInt8).isPrefixOf (s.drop k) = eqq (s[k] :: s.drop (k + 1)) := by rw [← dropE hk]; rfl
    rw [hq] at hb
    rw [fold_Plain_L1, ltI, decide_eq_true hk, if_pos rfl, idx_nat, getE hk, bind_some', eq32, ej, l32, g126, hb, dropE hk, plainF]
    have no : ∃ o, (some (.inr ()) : Option (Int ⊕ Unit)) = some o ∧ (match o with | .inl y => decide (y > 0) | .inr _ => false) = false := ⟨_, rfl, rfl⟩
    by_cases h32 : s[k] = 32
    · by_cases h0 : j = 0
      · rw [if_pos (show ((s[k] = 32 ∧ j = 0) ∨ s[k].toNat < 32 ∨ 126 < s[k].toNat ∨ eqq (s[k] :: s.drop (k + 1)) = true) from .inl ⟨h32, h0⟩)]
        simp only [h32, h0, decide_true, if_true, bind_some']
        exact no
      · have g1 : decide (s[k].toNat < 32) = false := decide_eq_false (by rw [h32]; decide)
        have g2 : decide (126 < s[k].toNat) = false := decide_eq_false (by rw [h32]; decide)
        rw [g1, g2, decide_eq_true h32, decide_eq_false h0]
        simp only [if_true, Bool.false_eq_true, if_false, bind_some']
        cases hq : eqq (s[k] :: s.drop (k + 1)) with
        | true =>
          rw [if_pos rfl, if_pos (show ((s[k] = 32 ∧ j = 0) ∨ s[k].toNat < 32 ∨ 126 < s[k].toNat ∨ true = true) from .inr (.inr (.inr rfl)))]; exact no
        | false =>
          have hn : ¬ ((s[k] = 32 ∧ j = 0) ∨ s[k].toNat < 32 ∨ 126 < s[k].toNat ∨ false = true) := by
            rintro (e | e | e | e)
            · exact h0 e.2
            · exact absurd (decide_eq_true e) (by rw [g1]; decide)
            · exact absurd (decide_eq_true e) (by rw [g2]; decide)
            · cases e
          rw [if_neg hn, if_pos h32, wr_succ (by omega)]
          have := ih 0 (by omega)
          rw [show ((0 : Nat) : Int) = 0 from rfl] at this
          simpa using this
    · rw [decide_eq_false h32]
      simp only [Bool.false_eq_true, if_false, bind_some']
      by_cases h1 : s[k].toNat < 32
      · rw [if_pos (show ((s[k] = 32 ∧ j = 0) ∨ s[k].toNat < 32 ∨ 126 < s[k].toNat ∨ eqq (s[k] :: s.drop (k + 1)) = true) from .inr (.inl h1)), decide_eq_true h1]
        exact no
      · rw [decide_eq_false h1]
        simp only [Bool.false_eq_true, if_false]
        by_cases h2 : 126 < s[k].toNat
        · rw [if_pos (show ((s[k] = 32 ∧ j = 0) ∨ s[k].toNat < 32 ∨ 126 < s[k].toNat ∨ eqq (s[k] :: s.drop (k + 1)) = true) from .inr (.inr (.inl h2))), decide_eq_true h2]
          exact no
        · rw [decide_eq_false h2]
          simp only [Bool.false_eq_true, if_false, bind_some']
          cases hq : eqq (s[k] :: s.drop (k + 1)) with
          | true =>
            rw [if_pos (show ((s[k] = 32 ∧ j = 0) ∨ s[k].toNat < 32 ∨ 126 < s[k].toNat ∨ true = true) from .inr (.inr (.inr rfl)))]
            exact no
          | false =>
            have hn : ¬ ((s[k] = 32 ∧ j = 0) ∨ s[k].toNat < 32 ∨ 126 < s[k].toNat ∨ false = true) := by
              rintro (e | e | e | e)
              · exact h32 e.1
              · exact h1 e
              · exact h2 e
              · cases e
            rw [if_neg hn, if_neg h32, wr_succ (by omega), wr_succ (by omega)]
            simp only [Bool.false_eq_true, if_false]
            by_cases h60 : j < 60
            · rw [decide_eq_false (show ¬ ((j + 1 : Nat) : Int) > 60 by omega), if_neg (by decide), if_pos h60]
              exact ih (j + 1) (by omega)
            · rw [decide_eq_true (show ((j + 1 : Nat) : Int) > 60 by omega), if_pos rfl, if_neg h60]
              exact no
theorem tPlain (s : List UInt8) (hs : s.length ≤ 1000000) : fold_Plain s = some (plainP s) := by
  obtain ⟨o, h1, h2⟩ := tPlainL s hs 0 (by omega) 0 (by omega)
  rw [List.drop_zero] at h2
  rw [show ((0 : Nat) : Int) = 0 from rfl] at h1
  rw [fold_Plain, h1, plainP, ← h2]
  cases (s == []) with
  | true => rfl
  | false =>
    rw [if_neg (by decide), bind_some']
    cases o <;> rfl
end Go.Proofs.YtagokkpnfceidaaDoor
end
