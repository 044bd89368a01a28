/- The proof's texts, part 8 of 10: the walks by a logic in which data are by value, the plain laws, and at the end the law, for every input. -/
import Derived.Test.YteahaflhihioaaaGreatDoorMgBuiltLong7

section
set_option linter.unusedVariables false
set_option linter.unusedSimpArgs false
namespace Go.Proofs.YteahaflhihioaaaGreatDoor
open Go.RowKit

set_option maxRecDepth 100000 in
set_option maxHeartbeats 4000000 in
theorem R31_text_L2_grp : (∀ (v5 : (List UInt8)) (o9 : (List UInt8)), R31_text_L2 v5 = some o9 → TL (0, 0) Tryz.prog 173 R31_text_L2_c (JP1 (0, 0) 173 o9 (.exit 3) (R31_text_L2_x0 )) (R31_text_L2_st v5)) := by
  refine R31_text_L2.partial_correctness _ ?_
  intro R31_text_L2' ih_R31_text_L2 v5 o9 h
  refine TL.round (bwp_sound mixed tbOk (lv := R31_text_lv) _ _ _ ?_)
  refine st_bind h (fun o10 ho hk => ?_)
  refine Exists.intro (JP1 _ _ o10 .normal (R31_text_J1_0 v5)) (And.intro ?_ (join1 ?_))
  · have h := ho
    refine vrfl ?_
    refine st_test h (fun hb h => ?_) (fun hb h => ?_)
    · refine vrfl ?_
      refine st_sidx h (fun x11 hi h => ?_)
      refine st_call [nV .u8 (x11.toNat : Int)] t_R31_gap h (fun x12 hy => (R31_gap_ok (x11.toNat : Int) x12 hy)) (fun x12 hy h => ?_)
      refine JP1.a h ?_
      exact Le.tow 0 0 rfl (.cons rfl (.refl _) (.cons rfl (.refl _) (.nil))) (.refl _) rfl
    · refine JP1.a h ?_
      exact Le.tow 0 0 rfl (.cons rfl (.refl _) (.cons rfl (.refl _) (.nil))) (.refl _) rfl
  · have h := hk
    refine st_test h (fun hb h => ?_) (fun hb h => ?_)
    · refine vrfl ?_
      refine st_cuts none (some (wr ((v5.length : Int) - 1))) h (fun x13 hi h => ?_)
      refine TL.le (τ := R31_text_L2_st  x13) ?_ ((ih_R31_text_L2 x13 _ h))
      exact Le.tow 0 0 rfl (.cons rfl (.refl _) (.nil)) (.refl _) rfl
    · exact JP1.a h (Le.tow 0 0 rfl (.cons rfl (.refl _) (.nil)) (.refl _) rfl)
theorem R31_text_L2_ok : ∀ (v5 : (List UInt8)) (o9 : (List UInt8)), R31_text_L2 v5 = some o9 → TL (0, 0) Tryz.prog 173 R31_text_L2_c (JP1 (0, 0) 173 o9 (.exit 3) (R31_text_L2_x0 )) (R31_text_L2_st v5) := fun v5 o9 h => R31_text_L2_grp v5 o9 h
noncomputable def R31_text_L3 (p1 : (List api_Val)) (v8 : (List (List UInt8))) (v9 : Int) : Option ((List (List UInt8))) :=
  idx p1 0 >>= fun x28 =>
  if (decide (v9 < (x28.L.length : Int))) then
    idx p1 0 >>= fun x29 =>
    idx x29.L v9 >>= fun x30 =>
    appL 16 v8 [x30.S] >>= fun x31 =>
    R31_text_L3 p1 x31 (wr (v9 + 1))
  else
    some v8
  partial_fixpoint
set_option maxRecDepth 100000 in
set_option maxHeartbeats 4000000 in
theorem R31_text_L3_grp : ∀ (p1 : (List api_Val)), (∀ (v8 : (List (List UInt8))) (v9 : Int) (o27 : (List (List UInt8))), R31_text_L3 p1 v8 v9 = some o27 → TL (0, 0) Tryz.prog 173 R31_text_L3_c (JP1 (0, 0) 173 o27 (.exit 5) (R31_text_L3_x0 p1)) (R31_text_L3_st p1 v8 v9)) := by
  intro p1
  refine R31_text_L3.partial_correctness p1 _ ?_
  intro R31_text_L3' ih_R31_text_L3 v8 v9 o27 h
  refine TL.round (bwp_sound mixed tbOk (lv := R31_text_lv) _ _ _ ?_)
  refine st_idx (l := p1) (c := c_api_Val) (c' := l_api_Val) h c_api_Val_eq (fun _ => rfl) (by decide) (fun x28 hi h => ?_)
  refine view (lenMap _ _) rfl ?_
  refine st_test h (fun hb h => ?_) (fun hb h => ?_)
  · refine st_idx (l := p1) (c := c_api_Val) (c' := l_api_Val) h c_api_Val_eq (fun _ => rfl) (by decide) (fun x29 hi h => ?_)
    refine st_idx (l := x29.L) (c := c_api_Val) (c' := l_api_Val) h c_api_Val_eq (fun _ => rfl) (by decide) (fun x30 hi h => ?_)
    refine st_appo (a := v8) (b := [x30.S]) (c := cStr) h (.refl _) (fun _ => rfl) rfl (fun x31 hi h => ?_)
    refine TL.le (τ := R31_text_L3_st p1 x31 (wr (v9 + 1))) ?_ ((ih_R31_text_L3 x31 (wr (v9 + 1)) _ h))
    exact Le.tow 0 1 rfl (.cons rfl (.refl _) (.cons rfl (.refl _) (.cons rfl (.refl _) (.nil)))) (.refl _) rfl
  · exact JP1.a h (Le.tow 0 1 rfl (.cons rfl (.refl _) (.cons rfl (.refl _) (.nil))) (.refl _) rfl)
theorem R31_text_L3_ok : ∀ (p1 : (List api_Val)) (v8 : (List (List UInt8))) (v9 : Int) (o27 : (List (List UInt8))), R31_text_L3 p1 v8 v9 = some o27 → TL (0, 0) Tryz.prog 173 R31_text_L3_c (JP1 (0, 0) 173 o27 (.exit 5) (R31_text_L3_x0 p1)) (R31_text_L3_st p1 v8 v9) := fun p1 v8 v9 o27 h => (R31_text_L3_grp p1) v8 v9 o27 h
noncomputable def R31_text (p0 : (List UInt8)) (p1 : (List api_Val)) : Option ((List UInt8)) :=
  idx p1 0 >>= fun x1 =>
  if (p0 == [117, 112, 112, 101, 114]) then
    R31_letters x1.S 97 122 (-32) >>= fun x2 =>
    some x2
  else
    if (p0 == [108, 111, 119, 101, 114]) then
      R31_letters x1.S 65 90 32 >>= fun x3 =>
      some x3
    else
      if (p0 == [116, 114, 105, 109]) then
        (R31_text_L1 x1.S) >>= fun o4 =>
        (R31_text_L2 o4) >>= fun o9 =>
        some o9
      else
        if (p0 == [102, 105, 114, 115, 116]) then
          R31_steps x1.S >>= fun x14 =>
          idx p1 1 >>= fun x15 =>
          cutL x14 0 (if (if (x14.length : Int) < x15.N then (x14.length : Int) else x15.N) > (0 : Int) then (if (x14.length : Int) < x15.N then (x14.length : Int) else x15.N) else (0 : Int)) >>= fun x16 =>
          R01_Join x16 [] >>= fun x17 =>
          some x17
        else
          if (p0 == [108, 97, 115, 116]) then
            R31_steps x1.S >>= fun x18 =>
            idx p1 1 >>= fun x19 =>
            cutL x18 (wr ((x18.length : Int) - (if (if (x18.length : Int) < x19.N then (x18.length : Int) else x19.N) > (0 : Int) then (if (x18.length : Int) < x19.N then (x18.length : Int) else x19.N) else (0 : Int)))) (x18.length : Int) >>= fun x20 =>
            R01_Join x20 [] >>= fun x21 =>
            some x21
          else
            if (p0 == [100, 101, 102, 97, 117, 108, 116]) then
              if (x1.S == []) then
                idx p1 1 >>= fun x22 =>
                some x22.S
              else
                some x1.S
            else
              if (p0 == [99, 97, 116]) then
                idx p1 1 >>= fun x23 =>
                need (x1.S.length + x23.S.length ≤ 9223372036854775807) >>= fun _ =>
                some (x1.S ++ x23.S)
              else
                if (p0 == [114, 101, 112, 108, 97, 99, 101]) then
                  idx p1 1 >>= fun x24 =>
                  idx p1 2 >>= fun x25 =>
                  R31_replace x1.S x24.S x25.S >>= fun x26 =>
                  some x26
                else
                  if (p0 == [106, 111, 105, 110]) then
                    (R31_text_L3 p1 [] 0) >>= fun o27 =>
                    idx p1 1 >>= fun x32 =>
                    R01_Join o27 x32.S >>= fun x33 =>
                    some x33
                  else
                    if (p0 == [103, 101, 116]) then
                      idx p1 0 >>= fun x34 =>
                      idx p1 1 >>= fun x35 =>
                      R16_Find x34 x35.S >>= fun x36 =>
                      some x36.1
                    else
                      idx p1 0 >>= fun x37 =>
                      if (x37.K == 2) then
                        idx p1 0 >>= fun x38 =>
                        R01_Text x38.N >>= fun x39 =>
                        some x39
                      else
                        idx p1 0 >>= fun x40 =>
                        if x40.B then
                          some [116, 114, 117, 101]
                        else
                          some [102, 97, 108, 115, 101]
set_option maxRecDepth 100000 in
set_option maxHeartbeats 4000000 in
theorem R31_text_ok : ∀ (p0 : (List UInt8)) (p1 : (List api_Val)) (o : (List UInt8)), R31_text p0 p1 = some o → PCall Tryz.prog 21 [sV p0, .sl false (p1.map c_api_Val)] (t_R31_text o) := by
  intro p0 p1 o h
  unfold R31_text at h
  refine PCall.ofB mixed tbOk R31_text_lv Tryz.func21 rfl (by kernel_rfl) (Nat.le_of_ble_eq_true rfl) ?_
  refine st_idx (l := p1) (c := c_api_Val) (c' := l_api_Val) h c_api_Val_eq (fun _ => rfl) (by decide) (fun x1 hi h => ?_)
  refine st_test h (fun hb h => ?_) (fun hb h => ?_)
  · refine st_call [sV x1.S, nV .u8 97, nV .u8 122, iV (-32)] t_R31_letters h (fun x2 hy => (R31_letters_ok x1.S 97 122 (-32) x2 hy)) (fun x2 hy h => ?_)
    refine st_ret (t := t_R31_text) h ?_
    exact .refl _
  · refine st_test h (fun hb h => ?_) (fun hb h => ?_)
    · refine st_call [sV x1.S, nV .u8 65, nV .u8 90, iV 32] t_R31_letters h (fun x3 hy => (R31_letters_ok x1.S 65 90 32 x3 hy)) (fun x3 hy h => ?_)
      refine st_ret (t := t_R31_text) h ?_
      exact .refl _
    · refine st_test h (fun hb h => ?_) (fun hb h => ?_)
      · refine st_bind h (fun o4 ho hk => ?_)
        refine Exists.intro (JP1 _ _ o4 (.exit 1) (R31_text_L1_x0 )) (And.intro (T_le (τ := R31_text_L1_st x1.S) ?_ (TL.loop (R31_text_L1_ok x1.S o4 ho))) (join1 ?_))
        · exact Le.tow 0 0 rfl (.cons rfl (.refl _) (.nil)) (.refl _) rfl
        have h := hk
        refine st_bind h (fun o9 ho hk => ?_)
        refine Exists.intro (JP1 _ _ o9 (.exit 3) (R31_text_L2_x0 )) (And.intro (T_le (τ := R31_text_L2_st o4) ?_ (TL.loop (R31_text_L2_ok o4 o9 ho))) (join1 ?_))
        · exact Le.tow 0 0 rfl (.cons rfl (.refl _) (.nil)) (.refl _) rfl
        have h := hk
        refine st_ret (t := t_R31_text) h ?_
        exact .refl _
      · refine st_test h (fun hb h => ?_) (fun hb h => ?_)
        · refine st_call [sV x1.S] t_R31_steps h (fun x14 hy => (R31_steps_ok x1.S x14 hy)) (fun x14 hy h => ?_)
          refine st_idx (l := p1) (c := c_api_Val) (c' := l_api_Val) h c_api_Val_eq (fun _ => rfl) (by decide) (fun x15 hi h => ?_)
          refine view (lenMap _ _) rfl ?_
          refine st_cut (c := cStr) none (some (if (if (x14.length : Int) < x15.N then (x14.length : Int) else x15.N) > (0 : Int) then (if (x14.length : Int) < x15.N then (x14.length : Int) else x15.N) else (0 : Int))) h (fun _ => rfl) (fun x16 hi h => ?_)
          refine st_call [.sl false (x16.map cStr), sV []] t_R01_Join h (fun x17 hy => (R01_Join_ok x16 [] x17 hy)) (fun x17 hy h => ?_)
          refine st_ret (t := t_R31_text) h ?_
          exact .refl _
        · refine st_test h (fun hb h => ?_) (fun hb h => ?_)
          · refine st_call [sV x1.S] t_R31_steps h (fun x18 hy => (R31_steps_ok x1.S x18 hy)) (fun x18 hy h => ?_)
            refine view (lenMap _ _) rfl ?_
            refine st_idx (l := p1) (c := c_api_Val) (c' := l_api_Val) h c_api_Val_eq (fun _ => rfl) (by decide) (fun x19 hi h => ?_)
            refine view (lenMap _ _) rfl ?_
            refine st_cut (c := cStr) (some (wr ((x18.length : Int) - (if (if (x18.length : Int) < x19.N then (x18.length : Int) else x19.N) > (0 : Int) then (if (x18.length : Int) < x19.N then (x18.length : Int) else x19.N) else (0 : Int))))) none h (fun _ => rfl) (fun x20 hi h => ?_)
            refine st_call [.sl false (x20.map cStr), sV []] t_R01_Join h (fun x21 hy => (R01_Join_ok x20 [] x21 hy)) (fun x21 hy h => ?_)
            refine st_ret (t := t_R31_text) h ?_
            exact .refl _
          · refine st_test h (fun hb h => ?_) (fun hb h => ?_)
            · refine st_test h (fun hb h => ?_) (fun hb h => ?_)
              · refine st_idx (l := p1) (c := c_api_Val) (c' := l_api_Val) h c_api_Val_eq (fun _ => rfl) (by decide) (fun x22 hi h => ?_)
                refine st_ret (t := t_R31_text) h ?_
                exact .refl _
              · refine st_ret (t := t_R31_text) h ?_
                exact .refl _
            · refine st_test h (fun hb h => ?_) (fun hb h => ?_)
              · refine st_idx (l := p1) (c := c_api_Val) (c' := l_api_Val) h c_api_Val_eq (fun _ => rfl) (by decide) (fun x23 hi h => ?_)
                refine st_need h (fun h => ?_)
                refine st_ret (t := t_R31_text) h ?_
                exact .refl _
              · refine st_test h (fun hb h => ?_) (fun hb h => ?_)
                · refine And.intro (by decide +kernel) (And.intro rfl ?_)
                  refine st_idx (l := p1) (c := c_api_Val) (c' := l_api_Val) h c_api_Val_eq (fun _ => rfl) (by decide) (fun x24 hi h => ?_)
                  refine st_idx (l := p1) (c := c_api_Val) (c' := l_api_Val) h c_api_Val_eq (fun _ => rfl) (by decide) (fun x25 hi h => ?_)
                  refine st_calld [sV x1.S, sV x24.S, sV x25.S] t_R31_replace h (fun x26 hy => (R31_replace_ok x1.S x24.S x25.S x26 hy)) (fun x26 hy h => ?_)
                  refine st_ret (t := t_R31_text) h ?_
                  exact .refl _
                · refine st_test h (fun hb h => ?_) (fun hb h => ?_)
                  · refine st_bind h (fun o27 ho hk => ?_)
                    refine Exists.intro (JP1 _ _ o27 (.exit 5) (R31_text_L3_x0 p1)) (And.intro (T_le (τ := R31_text_L3_st p1 [] 0) ?_ (TL.loop (R31_text_L3_ok p1 [] 0 o27 ho))) (join1 ?_))
                    · exact Le.trans (τ := ⟨[(1, .p (.sl false (p1.map c_api_Val))), (8, .p (.sl true [])), (9, .p (iV 0))], ⟨[], []⟩⟩) (Le.tow 0 0 rfl (.cons rfl (.refl _) (.cons rfl (.refl _) (.cons rfl (.refl _) (.nil)))) (.refl _) rfl) ((Le.own 8 9 1 rfl sizeNil).trans (Le.tow 0 1 rfl (.cons rfl (.refl _) (.cons rfl (.refl _) (.cons rfl (.refl _) (.nil)))) (.refl _) rfl))
                    have h := hk
                    refine st_idx (l := p1) (c := c_api_Val) (c' := l_api_Val) h c_api_Val_eq (fun _ => rfl) (by decide) (fun x32 hi h => ?_)
                    refine st_call [.sl false (o27.map cStr), sV x32.S] t_R01_Join h (fun x33 hy => (R01_Join_ok o27 x32.S x33 hy)) (fun x33 hy h => ?_)
                    refine st_ret (t := t_R31_text) h ?_
                    exact .refl _
                  · refine st_test h (fun hb h => ?_) (fun hb h => ?_)
                    · refine And.intro (by decide +kernel) (And.intro rfl ?_)
                      refine st_idx (l := p1) (c := c_api_Val) (c' := l_api_Val) h c_api_Val_eq (fun _ => rfl) (by decide) (fun x34 hi h => ?_)
                      refine st_idx (l := p1) (c := c_api_Val) (c' := l_api_Val) h c_api_Val_eq (fun _ => rfl) (by decide) (fun x35 hi h => ?_)
                      refine st_calld [.agg [iV x34.K, sV x34.S, iV x34.N, bV x34.B, .sl false (x34.L.map c_api_Val)], sV x35.S] t_R16_Find h (fun x36 hy => (R16_Find_ok x34 x35.S x36 hy)) (fun x36 hy h => ?_)
                      refine st_ret (t := t_R31_text) h ?_
                      exact .refl _
                    · refine st_idx (l := p1) (c := c_api_Val) (c' := l_api_Val) h c_api_Val_eq (fun _ => rfl) (by decide) (fun x37 hi h => ?_)
                      refine st_test h (fun hb h => ?_) (fun hb h => ?_)
                      · refine st_idx (l := p1) (c := c_api_Val) (c' := l_api_Val) h c_api_Val_eq (fun _ => rfl) (by decide) (fun x38 hi h => ?_)
                        refine st_call [iV x38.N] t_R01_Text h (fun x39 hy => (R01_Text_ok x38.N x39 hy)) (fun x39 hy h => ?_)
                        refine st_ret (t := t_R31_text) h ?_
                        exact .refl _
                      · refine st_idx (l := p1) (c := c_api_Val) (c' := l_api_Val) h c_api_Val_eq (fun _ => rfl) (by decide) (fun x40 hi h => ?_)
                        refine st_test h (fun hb h => ?_) (fun hb h => ?_)
                        · refine st_ret (t := t_R31_text) h ?_
                          exact .refl _
                        · refine st_ret (t := t_R31_text) h ?_
                          exact .refl _
noncomputable def R31_truth (p0 : (List UInt8)) (p1 : (List api_Val)) : Option (Bool) :=
  if (p0 == [104, 97, 115]) then
    idx p1 0 >>= fun x1 =>
    idx p1 1 >>= fun x2 =>
    R16_Find x1 x2.S >>= fun x3 =>
    some x3.2
  else
    if (p0 == [108, 101, 115, 115]) then
      idx p1 0 >>= fun x4 =>
      idx p1 1 >>= fun x5 =>
      some (decide (x4.N < x5.N))
    else
      if (p0 == [115, 97, 109, 101]) then
        idx p1 0 >>= fun x6 =>
        idx p1 1 >>= fun x7 =>
        R16_Same x6 x7 >>= fun x8 =>
        some x8
      else
        if (p0 == [98, 111, 116, 104]) then
          ( idx p1 0 >>= fun x10 =>
            if x10.B then
              idx p1 1 >>= fun x11 =>
              some x11.B
            else
              some false : Option (Bool)) >>= fun o9 =>
          some o9
        else
          if (p0 == [101, 105, 116, 104, 101, 114]) then
            ( idx p1 0 >>= fun x13 =>
              if x13.B then
                some true
              else
                idx p1 1 >>= fun x14 =>
                some x14.B : Option (Bool)) >>= fun o12 =>
            some o12
          else
            idx p1 0 >>= fun x15 =>
            some (!x15.B)
set_option maxRecDepth 100000 in
set_option maxHeartbeats 4000000 in
theorem R31_truth_ok : ∀ (p0 : (List UInt8)) (p1 : (List api_Val)) (o : Bool), R31_truth p0 p1 = some o → PCall Tryz.prog 23 [sV p0, .sl false (p1.map c_api_Val)] (t_R31_truth o) := by
  intro p0 p1 o h
  unfold R31_truth at h
  refine PCall.ofB mixed tbOk R31_truth_lv Tryz.func23 rfl (by kernel_rfl) (Nat.le_of_ble_eq_true rfl) ?_
  refine st_test h (fun hb h => ?_) (fun hb h => ?_)
  · refine And.intro (by decide +kernel) (And.intro rfl ?_)
    refine st_idx (l := p1) (c := c_api_Val) (c' := l_api_Val) h c_api_Val_eq (fun _ => rfl) (by decide) (fun x1 hi h => ?_)
    refine st_idx (l := p1) (c := c_api_Val) (c' := l_api_Val) h c_api_Val_eq (fun _ => rfl) (by decide) (fun x2 hi h => ?_)
    refine st_calld [.agg [iV x1.K, sV x1.S, iV x1.N, bV x1.B, .sl false (x1.L.map c_api_Val)], sV x2.S] t_R16_Find h (fun x3 hy => (R16_Find_ok x1 x2.S x3 hy)) (fun x3 hy h => ?_)
    refine st_ret (t := t_R31_truth) h ?_
    exact .refl _
  · refine st_test h (fun hb h => ?_) (fun hb h => ?_)
    · refine And.intro (by decide +kernel) (And.intro rfl ?_)
      refine st_idx (l := p1) (c := c_api_Val) (c' := l_api_Val) h c_api_Val_eq (fun _ => rfl) (by decide) (fun x4 hi h => ?_)
      refine st_idx (l := p1) (c := c_api_Val) (c' := l_api_Val) h c_api_Val_eq (fun _ => rfl) (by decide) (fun x5 hi h => ?_)
      refine st_ret (t := t_R31_truth) h ?_
      exact .refl _
    · refine st_test h (fun hb h => ?_) (fun hb h => ?_)
      · refine And.intro (by decide +kernel) (And.intro rfl ?_)
        refine st_idx (l := p1) (c := c_api_Val) (c' := l_api_Val) h c_api_Val_eq (fun _ => rfl) (by decide) (fun x6 hi h => ?_)
        refine st_idx (l := p1) (c := c_api_Val) (c' := l_api_Val) h c_api_Val_eq (fun _ => rfl) (by decide) (fun x7 hi h => ?_)
        refine st_calld [.agg [iV x6.K, sV x6.S, iV x6.N, bV x6.B, .sl false (x6.L.map c_api_Val)], .agg [iV x7.K, sV x7.S, iV x7.N, bV x7.B, .sl false (x7.L.map c_api_Val)]] t_R16_Same h (fun x8 hy => (R16_Same_ok x6 x7 x8 hy)) (fun x8 hy h => ?_)
        refine st_ret (t := t_R31_truth) h ?_
        exact .refl _
      · refine st_test h (fun hb h => ?_) (fun hb h => ?_)
        · refine st_bind h (fun o9 ho hk => ?_)
          refine Exists.intro (JP1 _ _ o9 .normal (R31_truth_J0_0 )) (And.intro ?_ (join1 ?_))
          · have h := ho
            refine st_idx (l := p1) (c := c_api_Val) (c' := l_api_Val) h c_api_Val_eq (fun _ => rfl) (by decide) (fun x10 hi h => ?_)
            refine st_test h (fun hb h => ?_) (fun hb h => ?_)
            · refine st_idx (l := p1) (c := c_api_Val) (c' := l_api_Val) h c_api_Val_eq (fun _ => rfl) (by decide) (fun x11 hi h => ?_)
              refine JP1.a h ?_
              exact Le.tow 0 0 rfl (.cons rfl (.refl _) (.nil)) (.refl _) rfl
            · refine JP1.a h ?_
              exact Le.tow 0 0 rfl (.cons rfl (.refl _) (.nil)) (.refl _) rfl
          · have h := hk
            refine st_ret (t := t_R31_truth) h ?_
            exact .refl _
        · refine st_test h (fun hb h => ?_) (fun hb h => ?_)
          · refine st_bind h (fun o12 ho hk => ?_)
            refine Exists.intro (JP1 _ _ o12 .normal (R31_truth_J1_0 )) (And.intro ?_ (join1 ?_))
            · have h := ho
              refine st_idx (l := p1) (c := c_api_Val) (c' := l_api_Val) h c_api_Val_eq (fun _ => rfl) (by decide) (fun x13 hi h => ?_)
              refine st_test h (fun hb h => ?_) (fun hb h => ?_)
              · refine JP1.a h ?_
                exact Le.tow 0 0 rfl (.cons rfl (.refl _) (.nil)) (.refl _) rfl
              · refine st_idx (l := p1) (c := c_api_Val) (c' := l_api_Val) h c_api_Val_eq (fun _ => rfl) (by decide) (fun x14 hi h => ?_)
                refine JP1.a h ?_
                exact Le.tow 0 0 rfl (.cons rfl (.refl _) (.nil)) (.refl _) rfl
            · have h := hk
              refine st_ret (t := t_R31_truth) h ?_
              exact .refl _
          · refine st_idx (l := p1) (c := c_api_Val) (c' := l_api_Val) h c_api_Val_eq (fun _ => rfl) (by decide) (fun x15 hi h => ?_)
            refine st_ret (t := t_R31_truth) h ?_
            exact .refl _
noncomputable def R31_Call (p0 : (List UInt8)) (p1 : (List api_Val)) : Option (api_Val × Int) :=
  (R31_Call_L1 p0 p1 [] 0) >>= fun o1 =>
  match o1 with
  | .inl y2 =>
    R15_Call p0 y2 >>= fun x8 =>
    if (!x8.2) then
      some ((api_Val.mk 0 [] 0 false []), 201)
    else
      if (x8.1 == 1) then
        R31_text p0 p1 >>= fun x9 =>
        if (decide ((x9.length : Int) > 65536)) then
          some ((api_Val.mk 0 [] 0 false []), 204)
        else
          R16_Text x9 >>= fun x10 =>
          some (x10, 0)
      else
        if (x8.1 == 2) then
          R31_number p0 p1 >>= fun x11 =>
          some ((api_Val.mk x8.1 [] x11 false []), 0)
        else
          if (x8.1 == 3) then
            R31_truth p0 p1 >>= fun x12 =>
            some ((api_Val.mk x8.1 [] 0 x12 []), 0)
          else
            (R31_Call_L2 p1 y2 0 []) >>= fun o13 =>
            some ((api_Val.mk 7 [] 0 false o13), 0)
  | .inr y3 =>
    some ((api_Val.mk 0 [] 0 false []), 201)
set_option maxRecDepth 100000 in
set_option maxHeartbeats 4000000 in
theorem R31_Call_ok : ∀ (p0 : (List UInt8)) (p1 : (List api_Val)) (o : api_Val × Int), R31_Call p0 p1 = some o → PCall Tryz.prog 8 [sV p0, .sl false (p1.map c_api_Val)] (t_R31_Call o) := by
  intro p0 p1 o h
  unfold R31_Call at h
  refine PCall.ofB mixed tbOk R31_Call_lv Tryz.func8 rfl (by kernel_rfl) (Nat.le_of_ble_eq_true rfl) ?_
  refine st_bind h (fun o1 ho hk => ?_)
  refine Exists.intro (JP2 _ _ o1 (.exit 0) (R31_Call_L1_x0 p0 p1) .ret (R31_Call_L1_x1 p0 p1)) (And.intro (T_le (τ := R31_Call_L1_st p0 p1 [] 0) ?_ (TL.loop (R31_Call_L1_ok p0 p1 [] 0 o1 ho))) (join2 (fun y2 hy => ?_) (fun y3 hy => ?_)))
  · exact Le.trans (τ := ⟨[(0, .p (sV p0)), (1, .p (.sl false (p1.map c_api_Val))), (4, .ptr 0 0), (6, .p (.sl true [])), (7, .p (iV 0))], ⟨[[.p (iV 0), .p (sV []), .p (iV 0), .p (bV false), .p (.sl true [])]], []⟩⟩) (Le.tow 1 0 rfl (.cons rfl (.refl _) (.cons rfl (.refl _) (.cons rfl (.refl _) (.cons rfl (.refl _) (.cons rfl (.refl _) (.nil)))))) (.refl _) rfl) ((Le.own 6 24 1 rfl sizeNil).trans (Le.tow 1 1 rfl (.cons rfl (.refl _) (.cons rfl (.refl _) (.cons rfl (.refl _) (.cons rfl (.refl _) (.cons rfl (.refl _) (.nil)))))) (.refl _) rfl))
  · have h := (by rw [hy] at hk; exact hk)
    refine st_call [sV p0, .sl false (y2.map cInt)] t_R15_Call h (fun x8 hy => (R15_Call_ok p0 y2 x8 hy)) (fun x8 hy h => ?_)
    refine st_test h (fun hb h => ?_) (fun hb h => ?_)
    · refine st_ret (t := t_R31_Call) h ?_
      exact .tup (xs := [.agg [iV 0, sV [], iV 0, bV false, .sl true []], iV 201]) (ys := [.agg [iV 0, sV [], iV 0, bV false, .sl false []], iV 201]) (.cons (.agg' (.cons (.refl _) (.cons (.refl _) (.cons (.refl _) (.cons (.refl _) (.cons (.not) (.nil))))))) (.cons (.refl _) (.nil)))
    · refine st_test h (fun hb h => ?_) (fun hb h => ?_)
      · refine st_call [sV p0, .sl false (p1.map c_api_Val)] t_R31_text h (fun x9 hy => (R31_text_ok p0 p1 x9 hy)) (fun x9 hy h => ?_)
        refine vrfl ?_
        refine st_test h (fun hb h => ?_) (fun hb h => ?_)
        · refine st_ret (t := t_R31_Call) h ?_
          exact .tup (xs := [.agg [iV 0, sV [], iV 0, bV false, .sl true []], iV 204]) (ys := [.agg [iV 0, sV [], iV 0, bV false, .sl false []], iV 204]) (.cons (.agg' (.cons (.refl _) (.cons (.refl _) (.cons (.refl _) (.cons (.refl _) (.cons (.not) (.nil))))))) (.cons (.refl _) (.nil)))
        · refine st_call [sV x9] t_R16_Text h (fun x10 hy => (R16_Text_ok x9 x10 hy)) (fun x10 hy h => ?_)
          refine st_ret (t := t_R31_Call) h ?_
          exact .refl _
      · refine st_test h (fun hb h => ?_) (fun hb h => ?_)
        · refine st_call [sV p0, .sl false (p1.map c_api_Val)] t_R31_number h (fun x11 hy => (R31_number_ok p0 p1 x11 hy)) (fun x11 hy h => ?_)
          refine st_ret (t := t_R31_Call) h ?_
          exact .tup (xs := [.agg [iV x8.1, sV [], iV x11, bV false, .sl true []], iV 0]) (ys := [.agg [iV x8.1, sV [], iV x11, bV false, .sl false []], iV 0]) (.cons (.agg' (.cons (.refl _) (.cons (.refl _) (.cons (.refl _) (.cons (.refl _) (.cons (.not) (.nil))))))) (.cons (.refl _) (.nil)))
        · refine st_test h (fun hb h => ?_) (fun hb h => ?_)
          · refine st_call [sV p0, .sl false (p1.map c_api_Val)] t_R31_truth h (fun x12 hy => (R31_truth_ok p0 p1 x12 hy)) (fun x12 hy h => ?_)
            refine st_ret (t := t_R31_Call) h ?_
            exact .tup (xs := [.agg [iV x8.1, sV [], iV 0, bV x12, .sl true []], iV 0]) (ys := [.agg [iV x8.1, sV [], iV 0, bV x12, .sl false []], iV 0]) (.cons (.agg' (.cons (.refl _) (.cons (.refl _) (.cons (.refl _) (.cons (.refl _) (.cons (.not) (.nil))))))) (.cons (.refl _) (.nil)))
          · refine st_bind h (fun o13 ho hk => ?_)
            refine Exists.intro (JP1 _ _ o13 (.exit 3) (R31_Call_L2_x0 p1 y2)) (And.intro (T_le (τ := R31_Call_L2_st p1 y2 0 []) ?_ (TL.loop (R31_Call_L2_ok p1 y2 0 [] o13 ho))) (join1 ?_))
            · exact (Le.ownH 1 4 26 5 rfl rfl sizeNil).trans (Le.tow 2 2 rfl (.cons rfl (.refl _) (.cons rfl (.refl _) (.cons rfl (.refl _) (.cons rfl (.refl _) (.nil))))) (.refl _) rfl)
            have h := hk
            refine st_ret (t := t_R31_Call) h ?_
            exact .refl _
  · have h := (by rw [hy] at hk; exact hk)
    refine st_ret (t := t_R31_Call) h ?_
    exact .tup (xs := [.agg [iV 0, sV [], iV 0, bV false, .sl true []], iV 201]) (ys := [.agg [iV 0, sV [], iV 0, bV false, .sl false []], iV 201]) (.cons (.agg' (.cons (.refl _) (.cons (.refl _) (.cons (.refl _) (.cons (.refl _) (.cons (.not) (.nil))))))) (.cons (.refl _) (.nil)))
noncomputable def built_Call_L1 (p0 : (List UInt8)) (p1 : (List api_Val)) (v6 : (List Int)) (v13 : Int) : Option ((List Int)) :=
  if (decide (v13 < (p1.length : Int))) then
    idx p1 v13 >>= fun x2 =>
    appL 8 v6 [x2.K] >>= fun x3 =>
    built_Call_L1 p0 p1 x3 (wr (v13 + 1))
  else
    some v6
  partial_fixpoint
set_option maxRecDepth 100000 in
set_option maxHeartbeats 4000000 in
theorem built_Call_L1_grp : ∀ (p0 : (List UInt8)) (p1 : (List api_Val)), (∀ (v6 : (List Int)) (v13 : Int) (o1 : (List Int)), built_Call_L1 p0 p1 v6 v13 = some o1 → TL (0, 0) Tryz.prog 41 built_Call_L1_c (JP1 (0, 0) 41 o1 (.exit 0) (built_Call_L1_x0 p0 p1)) (built_Call_L1_st p0 p1 v6 v13)) := by
  intro p0 p1
  refine built_Call_L1.partial_correctness p0 p1 _ ?_
  intro built_Call_L1' ih_built_Call_L1 v6 v13 o1 h
  refine TL.round (bwp_sound mixed tbOk (lv := built_Call_lv) _ _ _ ?_)
  refine st_test h (fun hb h => ?_) (fun hb h => ?_)
  · refine st_idx (l := p1) (c := c_api_Val) (c' := l_api_Val) h c_api_Val_eq (fun _ => rfl) (by decide) (fun x2 hi h => ?_)
    refine st_appo (a := v6) (b := [x2.K]) (c := cInt) h (.refl _) (fun _ => rfl) rfl (fun x3 hi h => ?_)
    refine TL.le (τ := built_Call_L1_st p0 p1 x3 (wr (v13 + 1))) ?_ ((ih_built_Call_L1 x3 (wr (v13 + 1)) _ h))
    exact Le.tow 1 1 rfl (.cons rfl (.refl _) (.cons rfl (.refl _) (.cons rfl (.refl _) (.cons rfl (.refl _) (.cons rfl (.refl _) (.cons rfl (.refl _) (.cons rfl (.refl _) (.nil)))))))) (.refl _) rfl
  · exact JP1.a h (Le.tow 1 1 rfl (.cons rfl (.refl _) (.cons rfl (.refl _) (.cons rfl (.refl _) (.cons rfl (.refl _) (.nil))))) (.refl _) rfl)
theorem built_Call_L1_ok : ∀ (p0 : (List UInt8)) (p1 : (List api_Val)) (v6 : (List Int)) (v13 : Int) (o1 : (List Int)), built_Call_L1 p0 p1 v6 v13 = some o1 → TL (0, 0) Tryz.prog 41 built_Call_L1_c (JP1 (0, 0) 41 o1 (.exit 0) (built_Call_L1_x0 p0 p1)) (built_Call_L1_st p0 p1 v6 v13) := fun p0 p1 v6 v13 o1 h => (built_Call_L1_grp p0 p1) v6 v13 o1 h
noncomputable def built_within_int (p0 : Int) (p1 : Int) (p2 : Int) (p3 : Int) : Option (Int) :=
  ( if (decide (p1 > 0)) then
      some (decide ((wr (p0 + p1)) < p0))
    else
      some false : Option (Bool)) >>= fun o1 =>
  if o1 then
    some p3
  else
    ( if (decide (p1 < 0)) then
        some (decide ((wr (p0 + p1)) > p0))
      else
        some false : Option (Bool)) >>= fun o2 =>
    if o2 then
      some p2
    else
      some (wr (p0 + p1))
set_option maxRecDepth 100000 in
set_option maxHeartbeats 4000000 in
theorem built_within_int_ok : ∀ (p0 : Int) (p1 : Int) (p2 : Int) (p3 : Int) (o : Int), built_within_int p0 p1 p2 p3 = some o → PCall Tryz.prog 63 [iV p0, iV p1, iV p2, iV p3] (t_built_within_int o) := by
  intro p0 p1 p2 p3 o h
  unfold built_within_int at h
  refine PCall.ofB mixed tbOk built_within_int_lv Tryz.func63 rfl (by kernel_rfl) (Nat.le_of_ble_eq_true rfl) ?_
  refine st_bind h (fun o1 ho hk => ?_)
  refine Exists.intro (JP1 _ _ o1 .normal (built_within_int_J0_0 p0 p1 p2 p3)) (And.intro ?_ (join1 ?_))
  · have h := ho
    refine st_test h (fun hb h => ?_) (fun hb h => ?_)
    · refine JP1.a h ?_
      exact Le.tow 0 0 rfl (.cons rfl (.refl _) (.cons rfl (.refl _) (.cons rfl (.refl _) (.cons rfl (.refl _) (.cons rfl (.refl _) (.cons rfl (.refl _) (.nil))))))) (.refl _) rfl
    · refine JP1.a h ?_
      exact Le.tow 0 0 rfl (.cons rfl (.refl _) (.cons rfl (.refl _) (.cons rfl (.refl _) (.cons rfl (.refl _) (.cons rfl (.refl _) (.cons rfl (.refl _) (.nil))))))) (.refl _) rfl
  · have h := hk
    refine st_test h (fun hb h => ?_) (fun hb h => ?_)
    · refine st_ret (t := t_built_within_int) h ?_
      exact .refl _
    · refine st_bind h (fun o2 ho hk => ?_)
      refine Exists.intro (JP1 _ _ o2 .normal (built_within_int_J1_0 p0 p1 p2)) (And.intro ?_ (join1 ?_))
      · have h := ho
        refine st_test h (fun hb h => ?_) (fun hb h => ?_)
        · refine JP1.a h ?_
          exact Le.tow 0 0 rfl (.cons rfl (.refl _) (.cons rfl (.refl _) (.cons rfl (.refl _) (.nil)))) (.refl _) rfl
        · refine JP1.a h ?_
          exact Le.tow 0 0 rfl (.cons rfl (.refl _) (.cons rfl (.refl _) (.cons rfl (.refl _) (.nil)))) (.refl _) rfl
      · have h := hk
        refine st_test h (fun hb h => ?_) (fun hb h => ?_)
        · refine st_ret (t := t_built_within_int) h ?_
          exact .refl _
        · refine st_ret (t := t_built_within_int) h ?_
          exact .refl _
noncomputable def built_add (p0 : Int) (p1 : Int) : Option (Int) :=
  built_within_int p0 p1 (-9223372036854775808) 9223372036854775807 >>= fun x1 =>
  some x1
set_option maxRecDepth 100000 in
set_option maxHeartbeats 4000000 in
theorem built_add_ok : ∀ (p0 : Int) (p1 : Int) (o : Int), built_add p0 p1 = some o → PCall Tryz.prog 45 [iV p0, iV p1] (t_built_add o) := by
  intro p0 p1 o h
  unfold built_add at h
  refine PCall.ofB mixed tbOk built_add_lv Tryz.func45 rfl (by kernel_rfl) (Nat.le_of_ble_eq_true rfl) ?_
  refine st_call [iV p0, iV p1, iV (-9223372036854775808), iV 9223372036854775807] t_built_within_int h (fun x1 hy => (built_within_int_ok p0 p1 (-9223372036854775808) 9223372036854775807 x1 hy)) (fun x1 hy h => ?_)
  refine st_ret (t := t_built_add) h ?_
  exact .refl _
noncomputable def schema_Text (p0 : (List UInt8)) : Option (api_Val) :=
  some (api_Val.mk 1 p0 0 false [])
set_option maxRecDepth 100000 in
set_option maxHeartbeats 4000000 in
theorem schema_Text_ok : ∀ (p0 : (List UInt8)) (o : api_Val), schema_Text p0 = some o → PCall Tryz.prog 41 [sV p0] (t_schema_Text o) := by
  intro p0 o h
  unfold schema_Text at h
  refine PCall.ofB mixed tbOk schema_Text_lv Tryz.func41 rfl (by kernel_rfl) (Nat.le_of_ble_eq_true rfl) ?_
  refine st_ret (t := t_schema_Text) h ?_
  exact .p (.agg' (.cons (.refl _) (.cons (.refl _) (.cons (.refl _) (.cons (.refl _) (.cons (.not) (.nil)))))))
noncomputable def built_do_L1 (x7 : api_Val) (v41 : Int) (h1_4 : (List api_Val)) : Option ((List api_Val)) :=
  if (decide (v41 < (x7.L.length : Int))) then
    idx x7.L v41 >>= fun x9 =>
    idx x9.L 0 >>= fun x10 =>
    schema_Text x10.S >>= fun x11 =>
    appL 64 h1_4 [x11] >>= fun x12 =>
    built_do_L1 x7 (wr (v41 + 1)) x12
  else
    some h1_4
  partial_fixpoint
set_option maxRecDepth 100000 in
set_option maxHeartbeats 4000000 in
theorem built_do_L1_grp : ∀ (x7 : api_Val), (∀ (v41 : Int) (h1_4 : (List api_Val)) (o8 : (List api_Val)), built_do_L1 x7 v41 h1_4 = some o8 → TL (0, 0) Tryz.prog 185 built_do_L1_c (JP1 (0, 0) 185 o8 (.exit 1) (built_do_L1_x0 x7)) (built_do_L1_st x7 v41 h1_4)) := by
  intro x7
  refine built_do_L1.partial_correctness x7 _ ?_
  intro built_do_L1' ih_built_do_L1 v41 h1_4 o8 h
  refine TL.round (bwp_sound mixed tbOk (lv := built_do_lv) _ _ _ ?_)
  refine st_test h (fun hb h => ?_) (fun hb h => ?_)
  · refine st_idx (l := x7.L) (c := c_api_Val) (c' := l_api_Val) h c_api_Val_eq (fun _ => rfl) (by decide) (fun x9 hi h => ?_)
    refine And.intro (by decide +kernel) (And.intro rfl ?_)
    refine st_idx (l := x9.L) (c := c_api_Val) (c' := l_api_Val) h c_api_Val_eq (fun _ => rfl) (by decide) (fun x10 hi h => ?_)
    refine st_calld [sV x10.S] t_schema_Text h (fun x11 hy => (schema_Text_ok x10.S x11 hy)) (fun x11 hy h => ?_)
    refine st_appo (a := h1_4) (b := [x11]) (c := c_api_Val) h (.cons (.ceq (c_api_Val_eq _) (.refl _)) (.nil)) (fun x => by rw [c_api_Val_eq]; rfl) rfl (fun x12 hi h => ?_)
    refine TL.le (τ := built_do_L1_st x7 (wr (v41 + 1)) x12) ?_ ((ih_built_do_L1 (wr (v41 + 1)) x12 _ h))
    exact Le.tow 2 1 rfl (.cons rfl (.refl _) (.cons rfl (.refl _) (.cons rfl (.refl _) (.cons rfl (.refl _) (.cons rfl (.refl _) (.nil)))))) (.refl _) rfl
  · exact JP1.a h (Le.tow 2 1 rfl (.cons rfl (.refl _) (.cons rfl (.refl _) (.nil))) (.refl _) rfl)
theorem built_do_L1_ok : ∀ (x7 : api_Val) (v41 : Int) (h1_4 : (List api_Val)) (o8 : (List api_Val)), built_do_L1 x7 v41 h1_4 = some o8 → TL (0, 0) Tryz.prog 185 built_do_L1_c (JP1 (0, 0) 185 o8 (.exit 1) (built_do_L1_x0 x7)) (built_do_L1_st x7 v41 h1_4) := fun x7 v41 h1_4 o8 h => (built_do_L1_grp x7) v41 h1_4 o8 h
noncomputable def built_join_L1 (p0 : (List api_Val)) (p1 : (List UInt8)) (v7 : Int) (v19 : Int) (h2_0 : (List (List UInt8))) : Option ((Int × (List (List UInt8)))) :=
  if (decide (v19 < (p0.length : Int))) then
    idx p0 v19 >>= fun x2 =>
    appL 16 h2_0 [x2.S] >>= fun x3 =>
    built_join_L1 p0 p1 (wr (v7 + (x2.S.length : Int))) (wr (v19 + 1)) x3
  else
    some (v7, h2_0)
  partial_fixpoint
set_option maxRecDepth 100000 in
set_option maxHeartbeats 4000000 in
theorem built_join_L1_grp : ∀ (p0 : (List api_Val)) (p1 : (List UInt8)), (∀ (v7 : Int) (v19 : Int) (h2_0 : (List (List UInt8))) (o1 : (Int × (List (List UInt8)))), built_join_L1 p0 p1 v7 v19 h2_0 = some o1 → TL (0, 0) Tryz.prog 39 built_join_L1_c (JP1 (0, 0) 39 o1 (.exit 0) (built_join_L1_x0 p0 p1)) (built_join_L1_st p0 p1 v7 v19 h2_0)) := by
  intro p0 p1
  refine built_join_L1.partial_correctness p0 p1 _ ?_
  intro built_join_L1' ih_built_join_L1 v7 v19 h2_0 o1 h
  refine TL.round (bwp_sound mixed tbOk (lv := built_join_lv) _ _ _ ?_)
  refine st_test h (fun hb h => ?_) (fun hb h => ?_)
  · refine st_idx (l := p0) (c := c_api_Val) (c' := l_api_Val) h c_api_Val_eq (fun _ => rfl) (by decide) (fun x2 hi h => ?_)
    refine st_appo (a := h2_0) (b := [x2.S]) (c := cStr) h (.refl _) (fun _ => rfl) rfl (fun x3 hi h => ?_)
    refine vrfl ?_
    refine TL.le (τ := built_join_L1_st p0 p1 (wr (v7 + (x2.S.length : Int))) (wr (v19 + 1)) x3) ?_ ((ih_built_join_L1 (wr (v7 + (x2.S.length : Int))) (wr (v19 + 1)) x3 _ h))
    exact Le.tow 3 1 rfl (.cons rfl (.refl _) (.cons rfl (.refl _) (.cons rfl (.refl _) (.cons rfl (.refl _) (.cons rfl (.refl _) (.cons rfl (.refl _) (.cons rfl (.refl _) (.nil)))))))) (.refl _) rfl
  · exact JP1.a h (Le.tow 3 1 rfl (.cons rfl (.refl _) (.cons rfl (.refl _) (.cons rfl (.refl _) (.cons rfl (.refl _) (.nil))))) (.refl _) rfl)
theorem built_join_L1_ok : ∀ (p0 : (List api_Val)) (p1 : (List UInt8)) (v7 : Int) (v19 : Int) (h2_0 : (List (List UInt8))) (o1 : (Int × (List (List UInt8)))), built_join_L1 p0 p1 v7 v19 h2_0 = some o1 → TL (0, 0) Tryz.prog 39 built_join_L1_c (JP1 (0, 0) 39 o1 (.exit 0) (built_join_L1_x0 p0 p1)) (built_join_L1_st p0 p1 v7 v19 h2_0) := fun p0 p1 v7 v19 h2_0 o1 h => (built_join_L1_grp p0 p1) v7 v19 h2_0 o1 h
noncomputable def strings_Join (p0 : (List (List UInt8))) (p1 : (List UInt8)) : Option ((List UInt8)) :=
  need (p0.length ≤ 140737488355328) >>= fun _ =>
  need ((Lib.join p0 p1).length ≤ 140737488355328) >>= fun _ =>
  some (Lib.join p0 p1)
set_option maxRecDepth 100000 in
set_option maxHeartbeats 4000000 in
theorem strings_Join_ok : ∀ (p0 : (List (List UInt8))) (p1 : (List UInt8)) (o : (List UInt8)), strings_Join p0 p1 = some o → PCall Tryz.prog 77 [.sl false (p0.map cStr), sV p1] (t_strings_Join o) := by
  intro p0 p1 o h
  unfold strings_Join at h
  obtain ⟨h0, h⟩ := need_some h
  obtain ⟨h1, h⟩ := need_some h
  cases h
  exact join_ok _ _ h0 h1
noncomputable def octet_Join (p0 : (List (List UInt8))) (p1 : (List UInt8)) : Option ((List UInt8)) :=
  strings_Join p0 p1 >>= fun x1 =>
  some x1
set_option maxRecDepth 100000 in
set_option maxHeartbeats 4000000 in
theorem octet_Join_ok : ∀ (p0 : (List (List UInt8))) (p1 : (List UInt8)) (o : (List UInt8)), octet_Join p0 p1 = some o → PCall Tryz.prog 62 [.sl false (p0.map cStr), sV p1] (t_octet_Join o) := by
  intro p0 p1 o h
  unfold octet_Join at h
  refine PCall.ofB mixed tbOk octet_Join_lv Tryz.func62 rfl (by kernel_rfl) (Nat.le_of_ble_eq_true rfl) ?_
  refine st_call [.sl false (p0.map cStr), sV p1] t_strings_Join h (fun x1 hy => (strings_Join_ok p0 p1 x1 hy)) (fun x1 hy h => ?_)
  refine st_ret (t := t_octet_Join) h ?_
  exact .refl _
noncomputable def built_join_1 (h0_0 : (List (List UInt8))) (h1_0 : (List UInt8)) : Option ((List UInt8)) :=
  octet_Join h0_0 h1_0 >>= fun x1 =>
  some x1
set_option maxRecDepth 100000 in
set_option maxHeartbeats 4000000 in
theorem built_join_1_ok : ∀ (h0_0 : (List (List UInt8))) (h1_0 : (List UInt8)) (o : (List UInt8)), built_join_1 h0_0 h1_0 = some o → CallOK Tryz.prog 61 [.ptr 0 0, .ptr 1 0] ⟨[[.own 0 9 1 (h0_0.map cStr)], [.p (sV h1_0)]], [(h0_0.map cStr).length]⟩ (t_built_join_1 o) ⟨[[.own 0 9 1 (h0_0.map cStr)], [.p (sV h1_0)]], [(h0_0.map cStr).length]⟩ := by
  intro h0_0 h1_0 o h
  unfold built_join_1 at h
  refine CallOK.ofB mixed tbOk built_join_1_lv Tryz.func61 rfl (by kernel_rfl) (Nat.le_of_ble_eq_true rfl) rfl rfl rfl ?_
  refine st_call [.sl false (h0_0.map cStr), sV h1_0] t_octet_Join h (fun x1 hy => (octet_Join_ok h0_0 h1_0 x1 hy)) (fun x1 hy h => ?_)
  refine Exists.intro _ (And.intro (Le.refl _ _ _) ?_)
  exact st_retc (t := t_built_join_1) (ss := fun o => ⟨[[.own 0 9 1 (h0_0.map cStr)], [.p (sV h1_0)]], [(h0_0.map cStr).length]⟩) h ⟨[0], rfl, .refl _, .refl _, rfl⟩
noncomputable def built_long_built_join_1 (p0 : Int) (h0_0 : (List (List UInt8))) (h1_0 : (List UInt8)) : Option (api_Val × Int) :=
  if (decide (p0 > 65536)) then
    some ((api_Val.mk 0 [] 0 false []), 204)
  else
    built_join_1 h0_0 h1_0 >>= fun x1 =>
    schema_Text x1 >>= fun x2 =>
    some (x2, 0)
set_option maxRecDepth 100000 in
set_option maxHeartbeats 4000000 in
theorem built_long_built_join_1_ok : ∀ (p0 : Int) (h0_0 : (List (List UInt8))) (h1_0 : (List UInt8)) (o : api_Val × Int), built_long_built_join_1 p0 h0_0 h1_0 = some o → CallOK Tryz.prog 60 [.p (iV p0), .fn (.func 61) [] [.ptr 0 0, .ptr 1 0]] ⟨[[.own 0 9 1 (h0_0.map cStr)], [.p (sV h1_0)]], [(h0_0.map cStr).length]⟩ (t_built_long_built_join_1 o) ⟨[[.own 0 9 1 (h0_0.map cStr)], [.p (sV h1_0)]], [(h0_0.map cStr).length]⟩ := by
  intro p0 h0_0 h1_0 o h
  unfold built_long_built_join_1 at h
  refine CallOK.ofB mixed tbOk built_long_built_join_1_lv Tryz.func60 rfl (by kernel_rfl) (Nat.le_of_ble_eq_true rfl) rfl rfl rfl ?_
  refine st_test h (fun hb h => ?_) (fun hb h => ?_)
  · refine Exists.intro _ (And.intro (Le.refl _ _ _) ?_)
    exact st_retc (t := t_built_long_built_join_1) (ss := fun o => ⟨[[.own 0 9 1 (h0_0.map cStr)], [.p (sV h1_0)]], [(h0_0.map cStr).length]⟩) h ⟨[0], rfl, .tup (xs := [.agg [iV 0, sV [], iV 0, bV false, .sl true []], iV 204]) (ys := [.agg [iV 0, sV [], iV 0, bV false, .sl false []], iV 204]) (.cons (.agg' (.cons (.refl _) (.cons (.refl _) (.cons (.refl _) (.cons (.refl _) (.cons (.not) (.nil))))))) (.cons (.refl _) (.nil))), .refl _, rfl⟩
  · refine st_callc _ _ h (fun x1 hy => ((built_join_1_ok h0_0 h1_0 x1 hy).fr [0, 1] [0] rfl rfl rfl)) (fun x1 hy h => ?_)
    refine st_call [sV x1] t_schema_Text h (fun x2 hy => (schema_Text_ok x1 x2 hy)) (fun x2 hy h => ?_)
    refine Exists.intro _ (And.intro (Le.refl _ _ _) ?_)
    exact st_retc (t := t_built_long_built_join_1) (ss := fun o => ⟨[[.own 0 9 1 (h0_0.map cStr)], [.p (sV h1_0)]], [(h0_0.map cStr).length]⟩) h ⟨[0], rfl, .refl _, .refl _, rfl⟩
noncomputable def built_join (p0 : (List api_Val)) (p1 : (List UInt8)) : Option (api_Val × Int) :=
  (built_join_L1 p0 p1 (wr ((if (wr ((p0.length : Int) - 1)) > (0 : Int) then (wr ((p0.length : Int) - 1)) else (0 : Int)) * (p1.length : Int))) 0 []) >>= fun o1 =>
  built_long_built_join_1 o1.1 o1.2 p1 >>= fun x4 =>
  some (x4.1, x4.2)
set_option maxRecDepth 100000 in
set_option maxHeartbeats 4000000 in
theorem built_join_ok : ∀ (p0 : (List api_Val)) (p1 : (List UInt8)) (o : api_Val × Int), built_join p0 p1 = some o → PCall Tryz.prog 40 [.sl false (p0.map c_api_Val), sV p1] (t_built_join o) := by
  intro p0 p1 o h
  unfold built_join at h
  refine PCall.ofB mixed tbOk built_join_lv Tryz.func40 rfl (by kernel_rfl) (Nat.le_of_ble_eq_true rfl) ?_
  refine view (lenMap _ _) rfl ?_
  refine vrfl ?_
  refine view (lenMap _ _) rfl ?_
  refine st_bind h (fun o1 ho hk => ?_)
  refine Exists.intro (JP1 _ _ o1 (.exit 0) (built_join_L1_x0 p0 p1)) (And.intro (T_le (τ := built_join_L1_st p0 p1 (wr ((if (wr ((p0.length : Int) - 1)) > (0 : Int) then (wr ((p0.length : Int) - 1)) else (0 : Int)) * (p1.length : Int))) 0 []) ?_ (TL.loop (built_join_L1_ok p0 p1 (wr ((if (wr ((p0.length : Int) - 1)) > (0 : Int) then (wr ((p0.length : Int) - 1)) else (0 : Int)) * (p1.length : Int))) 0 [] o1 ho))) (join1 ?_))
  · exact (Le.ownH 2 0 9 1 rfl rfl sizeNil).trans (Le.tow 3 1 rfl (.cons rfl (.refl _) (.cons rfl (.refl _) (.cons rfl (.refl _) (.cons rfl (.refl _) (.cons rfl (.refl _) (.cons rfl (.refl _) (.cons rfl (.refl _) (.nil)))))))) (.refl _) rfl)
  have h := hk
  refine st_callc _ _ h (fun x4 hy => ((built_long_built_join_1_ok o1.1 o1.2 p1 x4 hy).fr [2, 0] [0] rfl rfl rfl)) (fun x4 hy h => ?_)
  refine st_ret (t := t_built_join) h ?_
  exact .refl _
noncomputable def built_sub (p0 : Int) (p1 : Int) : Option (Int) :=
  if (p1 == (-9223372036854775808)) then
    built_add p0 9223372036854775807 >>= fun x1 =>
    built_add x1 1 >>= fun x2 =>
    some x2
  else
    built_add p0 (wr (0 - p1)) >>= fun x3 =>
    some x3
set_option maxRecDepth 100000 in
set_option maxHeartbeats 4000000 in
theorem built_sub_ok : ∀ (p0 : Int) (p1 : Int) (o : Int), built_sub p0 p1 = some o → PCall Tryz.prog 46 [iV p0, iV p1] (t_built_sub o) := by
  intro p0 p1 o h
  unfold built_sub at h
  refine PCall.ofB mixed tbOk built_sub_lv Tryz.func46 rfl (by kernel_rfl) (Nat.le_of_ble_eq_true rfl) ?_
  refine st_test h (fun hb h => ?_) (fun hb h => ?_)
  · refine st_call [iV p0, iV 9223372036854775807] t_built_add h (fun x1 hy => (built_add_ok p0 9223372036854775807 x1 hy)) (fun x1 hy h => ?_)
    refine st_call [iV x1, iV 1] t_built_add h (fun x2 hy => (built_add_ok x1 1 x2 hy)) (fun x2 hy h => ?_)
    refine st_ret (t := t_built_sub) h ?_
    exact .refl _
  · refine st_call [iV p0, iV (wr (0 - p1))] t_built_add h (fun x3 hy => (built_add_ok p0 (wr (0 - p1)) x3 hy)) (fun x3 hy h => ?_)
    refine st_ret (t := t_built_sub) h ?_
    exact .refl _
noncomputable def built_cut_L1 (x1 : (List UInt8)) (l4 : (List Int)) (h0_0 : Int) (h1_0 : Int) : Option ((Int × Int) ⊕ (Int × Int)) :=
  match l4 with
  | [] =>
    some (.inl (h0_0, h1_0))
  | x2 :: r3 =>
    if (decide ((wr (h0_0 - 1)) < 0)) then
      some (.inr ((wr (h0_0 - 1)), h1_0))
    else
      built_cut_L1 x1 r3 (wr (h0_0 - 1)) x2
  partial_fixpoint
set_option maxRecDepth 100000 in
set_option maxHeartbeats 4000000 in
theorem built_cut_L1_grp : ∀ (x1 : (List UInt8)), (∀ (l4 : (List Int)) (h0_0 : Int) (h1_0 : Int) (o6 : (Int × Int) ⊕ (Int × Int)), built_cut_L1 x1 l4 h0_0 h1_0 = some o6 → RL 2 0 Tryz.prog 16 (rgP built_cut_L1_c) (rgA built_cut_L1_c) (rgB built_cut_L1_c) (built_cut_L1_st x1 h0_0 h1_0).env (JP2 (0, 0) 16 o6 .normal (built_cut_L1_x0 x1) (.exit 0) (built_cut_L1_x1 x1)) (l4.map e_built_steps_1) (built_cut_L1_st x1 h0_0 h1_0).s) := by
  intro x1
  refine built_cut_L1.partial_correctness x1 _ ?_
  intro built_cut_L1' ih_built_cut_L1 l4 h0_0 h1_0 o6 h
  cases l4 with
  | nil =>
    refine rl_nil ?_
    exact JP2.a h (Le.tow 2 0 rfl (.cons rfl (.refl _) (.cons rfl (.refl _) (.cons rfl (.refl _) (.nil)))) (.refl _) rfl)
  | cons x2 r3 =>
    refine rl_cons (bwp_sound mixed tbOk (lv := built_cut_lv) _ _ _ ?_)
    refine And.intro rfl (bwp_sound mixed tbOk (lv := built_cut_lv) _ _ _ ?_)
    refine st_test h (fun hb h => ?_) (fun hb h => ?_)
    · exact Exists.intro (⟨[[.p (iV (wr (h0_0 - 1)))], [.p (iV h1_0)]], []⟩ : S) (And.intro (Le.tow 2 0 rfl .nil (.refl _) rfl) (And.intro rfl (And.intro rfl (JP2.b h (Le.tow 2 0 rfl (.cons rfl (.refl _) (.nil)) (.refl _) rfl)))))
    · exact Exists.intro (built_cut_L1_st x1 (wr (h0_0 - 1)) x2).s (And.intro (Le.tow 2 0 rfl (.nil) (.refl _) rfl) (And.intro rfl (And.intro rfl ((ih_built_cut_L1 r3 (wr (h0_0 - 1)) x2 _ h)))))
theorem built_cut_L1_ok : ∀ (x1 : (List UInt8)) (l4 : (List Int)) (h0_0 : Int) (h1_0 : Int) (o6 : (Int × Int) ⊕ (Int × Int)), built_cut_L1 x1 l4 h0_0 h1_0 = some o6 → RL 2 0 Tryz.prog 16 (rgP built_cut_L1_c) (rgA built_cut_L1_c) (rgB built_cut_L1_c) (built_cut_L1_st x1 h0_0 h1_0).env (JP2 (0, 0) 16 o6 .normal (built_cut_L1_x0 x1) (.exit 0) (built_cut_L1_x1 x1)) (l4.map e_built_steps_1) (built_cut_L1_st x1 h0_0 h1_0).s := fun x1 l4 h0_0 h1_0 o6 h => (built_cut_L1_grp x1) l4 h0_0 h1_0 o6 h
noncomputable def built_steps (p0 : (List UInt8)) : Option ((List UInt8)) :=
  some p0
set_option maxRecDepth 100000 in
set_option maxHeartbeats 4000000 in
theorem built_steps_ok : ∀ (p0 : (List UInt8)) (o : (List UInt8)), built_steps p0 = some o → PCall Tryz.prog 85 [sV p0] (t_built_steps o) := by
  intro p0 o h
  unfold built_steps at h
  refine PCall.ofM mixed tbOk built_steps_lv Tryz.func85 rfl (by kernel_rfl) (Nat.le_of_ble_eq_true rfl) ?_
  refine st_ret (t := t_built_steps) h ?_
  exact .refl _
noncomputable def utf_is (p0 : Int) : Option (Bool) :=
  ( if (decide (p0 ≥ 0)) then
      if (decide (p0 ≤ 1114111)) then
        if (decide (p0 < 55296)) then
          some true
        else
          some (decide (p0 > 57343))
      else
        some false
    else
      some false : Option (Bool)) >>= fun o1 =>
  some o1
set_option maxRecDepth 100000 in
set_option maxHeartbeats 4000000 in
theorem utf_is_ok : ∀ (p0 : Int) (o : Bool), utf_is p0 = some o → PCall Tryz.prog 93 [nV .i32 p0] (t_utf_is o) := by
  intro p0 o h
  unfold utf_is at h
  refine PCall.ofB mixed tbOk utf_is_lv Tryz.func93 rfl (by kernel_rfl) (Nat.le_of_ble_eq_true rfl) ?_
  refine st_bind h (fun o1 ho hk => ?_)
  refine Exists.intro (JP1 _ _ o1 .normal (utf_is_J0_0 )) (And.intro ?_ (join1 ?_))
  · have h := ho
    refine st_test h (fun hb h => ?_) (fun hb h => ?_)
    · refine st_test h (fun hb h => ?_) (fun hb h => ?_)
      · refine st_test h (fun hb h => ?_) (fun hb h => ?_)
        · refine JP1.a h ?_
          exact Le.tow 0 0 rfl (.cons rfl (.refl _) (.nil)) (.refl _) rfl
        · refine JP1.a h ?_
          exact Le.tow 0 0 rfl (.cons rfl (.refl _) (.nil)) (.refl _) rfl
      · refine JP1.a h ?_
        exact Le.tow 0 0 rfl (.cons rfl (.refl _) (.nil)) (.refl _) rfl
    · refine bF ?_
      refine JP1.a h ?_
      exact Le.tow 0 0 rfl (.cons rfl (.refl _) (.nil)) (.refl _) rfl
  · have h := hk
    refine st_ret (t := t_utf_is) h ?_
    exact .refl _
noncomputable def utf_tail_L1 (p0 : (List UInt8)) (p2 : Int) (v1 : Int) (v14 : Int) : Option (Int ⊕ Unit) :=
  if (decide (v14 < p2)) then
    idx p0 v14 >>= fun x4 =>
    if ((bits .and .u8 (x4.toNat : Int) 192) != 128) then
      some (.inr ())
    else
      idx p0 v14 >>= fun x5 =>
      utf_tail_L1 p0 p2 (bits .or .i32 (IntKind.i32.wrap (v1 * 2 ^ (min (6 : Int).toNat (IntKind.i32.bits)))) (IntKind.i32.wrap (bits .and .u8 (x5.toNat : Int) 63))) (wr (v14 + 1))
  else
    some (.inl v1)
  partial_fixpoint
set_option maxRecDepth 100000 in
set_option maxHeartbeats 4000000 in
theorem utf_tail_L1_grp : ∀ (p0 : (List UInt8)) (p2 : Int), (∀ (v1 : Int) (v14 : Int) (o1 : Int ⊕ Unit), utf_tail_L1 p0 p2 v1 v14 = some o1 → TL (0, 0) Tryz.prog 32 utf_tail_L1_c (JP2 (0, 0) 32 o1 (.exit 0) (utf_tail_L1_x0 p0 p2) .ret (utf_tail_L1_x1 p0 p2)) (utf_tail_L1_st p0 p2 v1 v14)) := by
  intro p0 p2
  refine utf_tail_L1.partial_correctness p0 p2 _ ?_
  intro utf_tail_L1' ih_utf_tail_L1 v1 v14 o1 h
  refine TL.round (bwp_sound mixed tbOk (lv := utf_tail_lv) _ _ _ ?_)
  refine st_test h (fun hb h => ?_) (fun hb h => ?_)
  · refine st_sidx h (fun x4 hi h => ?_)
    refine st_test h (fun hb h => ?_) (fun hb h => ?_)
    · exact JP2.b h (Le.tow 0 0 rfl (.cons rfl (.refl _) (.cons rfl (.refl _) (.nil))) (.refl _) rfl)
    · refine And.intro (by decide) ?_
      refine st_sidx h (fun x5 hi h => ?_)
      refine vrfl ?_
      refine TL.le (τ := utf_tail_L1_st p0 p2 (bits .or .i32 (IntKind.i32.wrap (v1 * 2 ^ (min (6 : Int).toNat (IntKind.i32.bits)))) (IntKind.i32.wrap (bits .and .u8 (x5.toNat : Int) 63))) (wr (v14 + 1))) ?_ ((ih_utf_tail_L1 (bits .or .i32 (IntKind.i32.wrap (v1 * 2 ^ (min (6 : Int).toNat (IntKind.i32.bits)))) (IntKind.i32.wrap (bits .and .u8 (x5.toNat : Int) 63))) (wr (v14 + 1)) _ h))
      exact Le.tow 0 0 rfl (.cons rfl (.refl _) (.cons rfl (.refl _) (.cons rfl (.refl _) (.cons rfl (.refl _) (.nil))))) (.refl _) rfl
  · exact JP2.a h (Le.tow 0 0 rfl (.cons rfl (.refl _) (.nil)) (.refl _) rfl)
theorem utf_tail_L1_ok : ∀ (p0 : (List UInt8)) (p2 : Int) (v1 : Int) (v14 : Int) (o1 : Int ⊕ Unit), utf_tail_L1 p0 p2 v1 v14 = some o1 → TL (0, 0) Tryz.prog 32 utf_tail_L1_c (JP2 (0, 0) 32 o1 (.exit 0) (utf_tail_L1_x0 p0 p2) .ret (utf_tail_L1_x1 p0 p2)) (utf_tail_L1_st p0 p2 v1 v14) := fun p0 p2 v1 v14 o1 h => (utf_tail_L1_grp p0 p2) v1 v14 o1 h
noncomputable def utf_tail (p0 : (List UInt8)) (p1 : Int) (p2 : Int) : Option (Int × Bool) :=
  if (decide ((p0.length : Int) < p2)) then
    some (0, false)
  else
    (utf_tail_L1 p0 p2 p1 0) >>= fun o1 =>
    match o1 with
    | .inl y2 =>
      some (y2, true)
    | .inr y3 =>
      some (0, false)
set_option maxRecDepth 100000 in
set_option maxHeartbeats 4000000 in
theorem utf_tail_ok : ∀ (p0 : (List UInt8)) (p1 : Int) (p2 : Int) (o : Int × Bool), utf_tail p0 p1 p2 = some o → PCall Tryz.prog 92 [sV p0, nV .i32 p1, iV p2] (t_utf_tail o) := by
  intro p0 p1 p2 o h
  unfold utf_tail at h
  refine PCall.ofB mixed tbOk utf_tail_lv Tryz.func92 rfl (by kernel_rfl) (Nat.le_of_ble_eq_true rfl) ?_
  refine vrfl ?_
  refine st_test h (fun hb h => ?_) (fun hb h => ?_)
  · refine st_ret (t := t_utf_tail) h ?_
    exact .refl _
  · refine st_bind h (fun o1 ho hk => ?_)
    refine Exists.intro (JP2 _ _ o1 (.exit 0) (utf_tail_L1_x0 p0 p2) .ret (utf_tail_L1_x1 p0 p2)) (And.intro (T_le (τ := utf_tail_L1_st p0 p2 p1 0) ?_ (TL.loop (utf_tail_L1_ok p0 p2 p1 0 o1 ho))) (join2 (fun y2 hy => ?_) (fun y3 hy => ?_)))
    · exact Le.tow 0 0 rfl (.cons rfl (.refl _) (.cons rfl (.refl _) (.cons rfl (.refl _) (.cons rfl (.refl _) (.nil))))) (.refl _) rfl
    · have h := (by rw [hy] at hk; exact hk)
      refine st_ret (t := t_utf_tail) h ?_
      exact .refl _
    · have h := (by rw [hy] at hk; exact hk)
      refine st_ret (t := t_utf_tail) h ?_
      exact .refl _
noncomputable def utf_Next (p0 : (List UInt8)) (p1 : Int) : Option (Int × Int) :=
  ( if (decide (p1 < 0)) then
      some true
    else
      some (decide (p1 ≥ (p0.length : Int))) : Option (Bool)) >>= fun o1 =>
  if o1 then
    some (0, 0)
  else
    idx p0 p1 >>= fun x2 =>
    ( if (decide ((x2.toNat : Int) < 128)) then
        some (.inr (IntKind.i32.wrap (x2.toNat : Int)))
      else
        ( if (decide ((x2.toNat : Int) ≥ 192)) then
            some (decide ((x2.toNat : Int) < 224))
          else
            some false : Option (Bool)) >>= fun o6 =>
        if o6 then
          some (.inl ((IntKind.i32.wrap (bits .and .u8 (x2.toNat : Int) 31)), 128, 1))
        else
          ( if (decide ((x2.toNat : Int) ≥ 224)) then
              some (decide ((x2.toNat : Int) < 240))
            else
              some false : Option (Bool)) >>= fun o7 =>
          if o7 then
            some (.inl ((IntKind.i32.wrap (bits .and .u8 (x2.toNat : Int) 15)), 2048, 2))
          else
            ( if (decide ((x2.toNat : Int) ≥ 240)) then
                some (decide ((x2.toNat : Int) < 248))
              else
                some false : Option (Bool)) >>= fun o8 =>
            if o8 then
              some (.inl ((IntKind.i32.wrap (bits .and .u8 (x2.toNat : Int) 7)), 65536, 3))
            else
              some (.inr 65533) : Option ((Int × Int × Int) ⊕ Int)) >>= fun o3 =>
    match o3 with
    | .inl y4 =>
      cutL p0 (wr (p1 + 1)) (p0.length : Int) >>= fun x9 =>
      utf_tail x9 y4.1 y4.2.2 >>= fun x10 =>
      ( if (!x10.2) then
          some true
        else
          if (decide (x10.1 < y4.2.1)) then
            some true
          else
            utf_is x10.1 >>= fun x12 =>
            some (!x12) : Option (Bool)) >>= fun o11 =>
      if o11 then
        some (65533, 1)
      else
        some (x10.1, (wr (y4.2.2 + 1)))
    | .inr y5 =>
      some (y5, 1)
set_option maxRecDepth 100000 in
set_option maxHeartbeats 4000000 in
theorem utf_Next_ok : ∀ (p0 : (List UInt8)) (p1 : Int) (o : Int × Int), utf_Next p0 p1 = some o → PCall Tryz.prog 76 [sV p0, iV p1] (t_utf_Next o) := by
  intro p0 p1 o h
  unfold utf_Next at h
  refine PCall.ofB mixed tbOk utf_Next_lv Tryz.func76 rfl (by kernel_rfl) (Nat.le_of_ble_eq_true rfl) ?_
  refine st_bind h (fun o1 ho hk => ?_)
  refine Exists.intro (JP1 _ _ o1 .normal (utf_Next_J0_0 p0 p1)) (And.intro ?_ (join1 ?_))
  · have h := ho
    refine st_test h (fun hb h => ?_) (fun hb h => ?_)
    · refine JP1.a h ?_
      exact Le.tow 0 0 rfl (.cons rfl (.refl _) (.cons rfl (.refl _) (.cons rfl (.refl _) (.nil)))) (.refl _) rfl
    · refine vrfl ?_
      refine JP1.a h ?_
      exact Le.tow 0 0 rfl (.cons rfl (.refl _) (.cons rfl (.refl _) (.cons rfl (.refl _) (.nil)))) (.refl _) rfl
  · have h := hk
    refine st_test h (fun hb h => ?_) (fun hb h => ?_)
    · refine st_ret (t := t_utf_Next) h ?_
      exact .refl _
    · refine st_sidx h (fun x2 hi h => ?_)
      refine st_bind h (fun o3 ho hk => ?_)
      refine Exists.intro (JP2 _ _ o3 .normal (utf_Next_J1_0 p0 p1) .ret (utf_Next_J1_1 p0 p1)) (And.intro ?_ (join2 (fun y4 hy => ?_) (fun y5 hy => ?_)))
      · have h := ho
        refine st_test h (fun hb h => ?_) (fun hb h => ?_)
        · refine vrfl ?_
          refine JP2.b h ?_
          exact Le.tow 0 0 rfl (.cons rfl (.refl _) (.cons rfl (.refl _) (.nil))) (.refl _) rfl
        · refine st_bind h (fun o6 ho hk => ?_)
          refine Exists.intro (JP1 _ _ o6 .normal (utf_Next_J2_0 p0 p1 x2)) (And.intro ?_ (join1 ?_))
          · have h := ho
            refine st_test h (fun hb h => ?_) (fun hb h => ?_)
            · refine JP1.a h ?_
              exact Le.tow 0 0 rfl (.cons rfl (.refl _) (.cons rfl (.refl _) (.cons rfl (.refl _) (.cons rfl (.refl _) (.nil))))) (.refl _) rfl
            · refine JP1.a h ?_
              exact Le.tow 0 0 rfl (.cons rfl (.refl _) (.cons rfl (.refl _) (.cons rfl (.refl _) (.cons rfl (.refl _) (.nil))))) (.refl _) rfl
          · have h := hk
            refine st_test h (fun hb h => ?_) (fun hb h => ?_)
            · refine vrfl ?_
              refine JP2.a h ?_
              exact Le.tow 0 0 rfl (.cons rfl (.refl _) (.cons rfl (.refl _) (.cons rfl (.refl _) (.cons rfl (.refl _) (.cons rfl (.refl _) (.nil)))))) (.refl _) rfl
            · refine st_bind h (fun o7 ho hk => ?_)
              refine Exists.intro (JP1 _ _ o7 .normal (utf_Next_J3_0 p0 p1 x2)) (And.intro ?_ (join1 ?_))
              · have h := ho
                refine st_test h (fun hb h => ?_) (fun hb h => ?_)
                · refine JP1.a h ?_
                  exact Le.tow 0 0 rfl (.cons rfl (.refl _) (.cons rfl (.refl _) (.cons rfl (.refl _) (.cons rfl (.refl _) (.nil))))) (.refl _) rfl
                · refine JP1.a h ?_
                  exact Le.tow 0 0 rfl (.cons rfl (.refl _) (.cons rfl (.refl _) (.cons rfl (.refl _) (.cons rfl (.refl _) (.nil))))) (.refl _) rfl
              · have h := hk
                refine st_test h (fun hb h => ?_) (fun hb h => ?_)
                · refine vrfl ?_
                  refine JP2.a h ?_
                  exact Le.tow 0 0 rfl (.cons rfl (.refl _) (.cons rfl (.refl _) (.cons rfl (.refl _) (.cons rfl (.refl _) (.cons rfl (.refl _) (.nil)))))) (.refl _) rfl
                · refine st_bind h (fun o8 ho hk => ?_)
                  refine Exists.intro (JP1 _ _ o8 .normal (utf_Next_J4_0 p0 p1 x2)) (And.intro ?_ (join1 ?_))
                  · have h := ho
                    refine st_test h (fun hb h => ?_) (fun hb h => ?_)
                    · refine JP1.a h ?_
                      exact Le.tow 0 0 rfl (.cons rfl (.refl _) (.cons rfl (.refl _) (.cons rfl (.refl _) (.cons rfl (.refl _) (.nil))))) (.refl _) rfl
                    · refine JP1.a h ?_
                      exact Le.tow 0 0 rfl (.cons rfl (.refl _) (.cons rfl (.refl _) (.cons rfl (.refl _) (.cons rfl (.refl _) (.nil))))) (.refl _) rfl
                  · have h := hk
                    refine st_test h (fun hb h => ?_) (fun hb h => ?_)
                    · refine vrfl ?_
                      refine JP2.a h ?_
                      exact Le.tow 0 0 rfl (.cons rfl (.refl _) (.cons rfl (.refl _) (.cons rfl (.refl _) (.cons rfl (.refl _) (.cons rfl (.refl _) (.nil)))))) (.refl _) rfl
                    · refine JP2.b h ?_
                      exact Le.tow 0 0 rfl (.cons rfl (.refl _) (.cons rfl (.refl _) (.nil))) (.refl _) rfl
      · have h := (by rw [hy] at hk; exact hk)
        refine st_cuts (some (wr (p1 + 1))) none h (fun x9 hi h => ?_)
        refine st_call [sV x9, nV .i32 y4.1, iV y4.2.2] t_utf_tail h (fun x10 hy => (utf_tail_ok x9 y4.1 y4.2.2 x10 hy)) (fun x10 hy h => ?_)
        refine st_bind h (fun o11 ho hk => ?_)
        refine Exists.intro (JP1 _ _ o11 .normal (utf_Next_J5_0 y4 x10)) (And.intro ?_ (join1 ?_))
        · have h := ho
          refine st_test h (fun hb h => ?_) (fun hb h => ?_)
          · refine bT ?_
            refine JP1.a h ?_
            exact Le.tow 0 0 rfl (.cons rfl (.refl _) (.cons rfl (.refl _) (.cons rfl (.refl _) (.nil)))) (.refl _) rfl
          · refine st_test h (fun hb h => ?_) (fun hb h => ?_)
            · refine JP1.a h ?_
              exact Le.tow 0 0 rfl (.cons rfl (.refl _) (.cons rfl (.refl _) (.cons rfl (.refl _) (.nil)))) (.refl _) rfl
            · refine st_call [nV .i32 x10.1] t_utf_is h (fun x12 hy => (utf_is_ok x10.1 x12 hy)) (fun x12 hy h => ?_)
              refine JP1.a h ?_
              exact Le.tow 0 0 rfl (.cons rfl (.refl _) (.cons rfl (.refl _) (.cons rfl (.refl _) (.nil)))) (.refl _) rfl
        · have h := hk
          refine st_test h (fun hb h => ?_) (fun hb h => ?_)
          · refine st_ret (t := t_utf_Next) h ?_
            exact .refl _
          · refine st_ret (t := t_utf_Next) h ?_
            exact .refl _
      · have h := (by rw [hy] at hk; exact hk)
        refine st_ret (t := t_utf_Next) h ?_
        exact .refl _
noncomputable def built_steps_1_L1 (p0 : (List UInt8)) (v3 : Int) : Option ((List Int) × (Unit)) :=
  if (decide (v3 < (p0.length : Int))) then
    utf_Next p0 v3 >>= fun x3 =>
    ( built_steps_1_L1 p0 (wr (v3 + x3.2))) >>= fun q => some ((wr (v3 + x3.2)) :: q.1, q.2)
  else
    some ([], ())
  partial_fixpoint
set_option maxRecDepth 100000 in
set_option maxHeartbeats 4000000 in
theorem built_steps_1_L1_grp : ∀ (p0 : (List UInt8)), (∀ (v3 : Int) (o2 : (List Int) × (Unit)), built_steps_1_L1 p0 v3 = some o2 → ∀ (gxs gp gpost gq1 : List (List V)), gxs = gp ++ (o2.1.map e_built_steps_1 ++ gpost) → gxs = gq1 ++ gpost → TL (0, 1) Tryz.prog 23 built_steps_1_L1_c (Qs (0, 1) 23 gxs (JP1 (0, 1) 23 o2.2 (.exit 0) (built_steps_1_L1_x0 p0 gxs gq1))) (built_steps_1_L1_st p0 v3 gxs gp)) := by
  intro p0
  refine built_steps_1_L1.partial_correctness p0 _ ?_
  intro built_steps_1_L1' ih_built_steps_1_L1 v3 o2 h
  intro gxs gp gpost gq1 hx hq
  refine TL.round (bwp_sound mixed tbOk (lv := built_steps_1_lv) _ _ _ ?_)
  refine vrfl ?_
  refine st_test h (fun hb h => ?_) (fun hb h => ?_)
  · refine st_call [sV p0, iV v3] t_utf_Next h (fun x3 hy => (utf_Next_ok p0 v3 x3 hy)) (fun x3 hy h => ?_)
    refine st_yld (c := e_built_steps_1) h hx (.refl _) (by exact rfl) (by exact rfl) (fun _ h hx => ?_) ?_
    · refine bF ?_
      refine TL.le (τ := built_steps_1_L1_st p0 (wr (v3 + x3.2)) gxs (gp ++ [e_built_steps_1 (wr (v3 + x3.2))])) ?_ ((ih_built_steps_1_L1 (wr (v3 + x3.2)) _ h) _ _ _ _ hx hq)
      exact Le.tow 0 1 rfl (.cons rfl (.refl _) (.cons rfl (.refl _) (.cons rfl (.refl _) (.nil)))) (.refl _) rfl
    · refine bT ?_
      exact .inr ⟨rfl, _, (Le.env0 _).trans (Le.tow 0 1 rfl .nil (.refl _) rfl), rfl, rfl, rfl⟩
  · exact .inl (JP1.a (sndI h) (Le.tow 0 1 rfl (.nil) (.refl _) (liveQ h hx hq rfl)))
theorem built_steps_1_L1_ok : ∀ (p0 : (List UInt8)) (v3 : Int) (o2 : (List Int) × (Unit)), built_steps_1_L1 p0 v3 = some o2 → ∀ (gxs gp gpost gq1 : List (List V)), gxs = gp ++ (o2.1.map e_built_steps_1 ++ gpost) → gxs = gq1 ++ gpost → TL (0, 1) Tryz.prog 23 built_steps_1_L1_c (Qs (0, 1) 23 gxs (JP1 (0, 1) 23 o2.2 (.exit 0) (built_steps_1_L1_x0 p0 gxs gq1))) (built_steps_1_L1_st p0 v3 gxs gp) := fun p0 v3 o2 h => (built_steps_1_L1_grp p0) v3 o2 h
noncomputable def built_steps_1 (p0 : (List UInt8)) : Option ((List Int) × Unit) :=
  ( built_steps_1_L1 p0 0) >>= fun o2 => (
    some ([], ())) >>= fun q => some (o2.1 ++ q.1, q.2)
set_option maxRecDepth 100000 in
set_option maxHeartbeats 4000000 in
theorem built_steps_1_ok : ∀ (p0 : (List UInt8)) (o : (List Int) × Unit), built_steps_1 p0 = some o → ∀ gxs : List (List V), gxs = o.1.map e_built_steps_1 → IterOK Tryz.prog 101 [.ep [sV p0]] gxs := by
  intro p0 o h
  unfold built_steps_1 at h
  intro gxs hg
  have hx : gxs = [] ++ (o.1.map e_built_steps_1 ++ []) := by simp [hg]
  refine IterOK.ofB mixed tbOk built_steps_1_lv Tryz.func101 rfl (by kernel_rfl) (Nat.le_of_ble_eq_true rfl) rfl ?_
  refine st_bindI h hx (fun o2 lgq1 gq1 ho hk hxa hjgq1 => ?_)
  refine Exists.intro (Qs _ _ gxs (JP1 _ _ o2.2 (.exit 0) (built_steps_1_L1_x0 p0 gxs gq1))) (And.intro (T_le (τ := built_steps_1_L1_st p0 0 gxs ([] : List (List V))) ?_ (TL.loop ((built_steps_1_L1_ok p0 0 o2 ho) _ _ _ _ hxa hjgq1))) (joinS (join1 ?_) ?_))
  · exact Le.tow 0 1 rfl (.cons rfl (.refl _) (.cons rfl (.refl _) (.cons rfl (.refl _) (.nil)))) (.refl _) rfl
  · have h := hk
    have hx := hjgq1
    exact st_iend h hx (.inl rfl) rfl
  · exact fun s1 h1 h2 hs => st_istop (.inr rfl) hs
noncomputable def built_cut (p0 : (List UInt8)) (p1 : Int) : Option (Int) :=
  built_steps p0 >>= fun x1 =>
  built_steps_1 x1 >>= fun y5 =>
  (built_cut_L1 x1 y5.1 p1 0) >>= fun o6 =>
  match o6 with
  | .inl y7 =>
    some y7.2
  | .inr y8 =>
    some y8.2
set_option maxRecDepth 100000 in
set_option maxHeartbeats 4000000 in
theorem built_cut_ok : ∀ (p0 : (List UInt8)) (p1 : Int) (o : Int), built_cut p0 p1 = some o → PCall Tryz.prog 67 [sV p0, iV p1] (t_built_cut o) := by
  intro p0 p1 o h
  unfold built_cut at h
  refine PCall.ofB mixed tbOk built_cut_lv Tryz.func67 rfl (by kernel_rfl) (Nat.le_of_ble_eq_true rfl) ?_
  refine st_call [sV p0] t_built_steps h (fun x1 hy => (built_steps_ok p0 x1 hy)) (fun x1 hy h => ?_)
  refine st_bind h (fun y5 hy5 h => ?_)
  refine st_bind h (fun o6 ho hk => ?_)
  refine Exists.intro (JP2 _ _ o6 .normal (built_cut_L1_x0 x1) (.exit 0) (built_cut_L1_x1 x1)) (And.intro (T_le (τ := built_cut_L1_st x1 p1 0) ?_ (T_range (g := 101) (cap := [.ep [sV x1]]) rfl ((built_steps_1_ok x1 y5 hy5) _ rfl) (mapSize fun _ => rfl) rfl (Nat.le_of_ble_eq_true rfl) (Nat.le_of_ble_eq_true rfl) (built_cut_L1_ok x1 y5.1 p1 0 o6 ho))) (join2 (fun y7 hy => ?_) (fun y8 hy => ?_)))
  · exact Le.tow 2 0 rfl (.cons rfl (.refl _) (.cons rfl (.refl _) (.cons rfl (.refl _) (.nil)))) (.refl _) rfl
  · have h := (by rw [hy] at hk; exact hk)
    refine st_ret (t := t_built_cut) h ?_
    exact .refl _
  · have h := (by rw [hy] at hk; exact hk)
    refine st_ret (t := t_built_cut) h ?_
    exact .refl _
noncomputable def built_text_1 (h0_0 : (List UInt8)) (h1_0 : (List api_Val)) : Option ((List UInt8)) :=
  idx h1_0 1 >>= fun x1 =>
  need (h0_0.length + x1.S.length ≤ 9223372036854775807) >>= fun _ =>
  some (h0_0 ++ x1.S)
set_option maxRecDepth 100000 in
set_option maxHeartbeats 4000000 in
theorem built_text_1_ok : ∀ (h0_0 : (List UInt8)) (h1_0 : (List api_Val)) (o : (List UInt8)), built_text_1 h0_0 h1_0 = some o → CallOK Tryz.prog 68 [.ptr 0 0, .ptr 1 0] ⟨[[.p (sV h0_0)], [.p (.sl false (h1_0.map c_api_Val))]], []⟩ (t_built_text_1 o) ⟨[[.p (sV h0_0)], [.p (.sl false (h1_0.map c_api_Val))]], []⟩ := by
  intro h0_0 h1_0 o h
  unfold built_text_1 at h
  refine CallOK.ofB mixed tbOk built_text_1_lv Tryz.func68 rfl (by kernel_rfl) (Nat.le_of_ble_eq_true rfl) rfl rfl rfl ?_
  refine And.intro (by decide +kernel) (And.intro rfl ?_)
  refine st_idx (l := h1_0) (c := c_api_Val) (c' := l_api_Val) h c_api_Val_eq (fun _ => rfl) (by decide) (fun x1 hi h => ?_)
  refine st_need h (fun h => ?_)
  refine Exists.intro _ (And.intro (Le.refl _ _ _) ?_)
  exact st_retc (t := t_built_text_1) (ss := fun o => ⟨[[.p (sV h0_0)], [.p (.sl false (h1_0.map c_api_Val))]], []⟩) h ⟨[], rfl, .refl _, .refl _, rfl⟩
noncomputable def built_long_built_text_1 (p0 : Int) (h0_0 : (List UInt8)) (h1_0 : (List api_Val)) : Option (api_Val × Int) :=
  if (decide (p0 > 65536)) then
    some ((api_Val.mk 0 [] 0 false []), 204)
  else
    built_text_1 h0_0 h1_0 >>= fun x1 =>
    schema_Text x1 >>= fun x2 =>
    some (x2, 0)
set_option maxRecDepth 100000 in
set_option maxHeartbeats 4000000 in
theorem built_long_built_text_1_ok : ∀ (p0 : Int) (h0_0 : (List UInt8)) (h1_0 : (List api_Val)) (o : api_Val × Int), built_long_built_text_1 p0 h0_0 h1_0 = some o → CallOK Tryz.prog 60 [.p (iV p0), .fn (.func 68) [] [.ptr 0 0, .ptr 1 0]] ⟨[[.p (sV h0_0)], [.p (.sl false (h1_0.map c_api_Val))]], []⟩ (t_built_long_built_text_1 o) ⟨[[.p (sV h0_0)], [.p (.sl false (h1_0.map c_api_Val))]], []⟩ := by
  intro p0 h0_0 h1_0 o h
  unfold built_long_built_text_1 at h
  refine CallOK.ofB mixed tbOk built_long_built_text_1_lv Tryz.func60 rfl (by kernel_rfl) (Nat.le_of_ble_eq_true rfl) rfl rfl rfl ?_
  refine st_test h (fun hb h => ?_) (fun hb h => ?_)
  · refine Exists.intro _ (And.intro (Le.refl _ _ _) ?_)
    exact st_retc (t := t_built_long_built_text_1) (ss := fun o => ⟨[[.p (sV h0_0)], [.p (.sl false (h1_0.map c_api_Val))]], []⟩) h ⟨[], rfl, .tup (xs := [.agg [iV 0, sV [], iV 0, bV false, .sl true []], iV 204]) (ys := [.agg [iV 0, sV [], iV 0, bV false, .sl false []], iV 204]) (.cons (.agg' (.cons (.refl _) (.cons (.refl _) (.cons (.refl _) (.cons (.refl _) (.cons (.not) (.nil))))))) (.cons (.refl _) (.nil))), .refl _, rfl⟩
  · refine st_callc _ _ h (fun x1 hy => ((built_text_1_ok h0_0 h1_0 x1 hy).fr [0, 1] [] rfl rfl rfl)) (fun x1 hy h => ?_)
    refine st_call [sV x1] t_schema_Text h (fun x2 hy => (schema_Text_ok x1 x2 hy)) (fun x2 hy h => ?_)
    refine Exists.intro _ (And.intro (Le.refl _ _ _) ?_)
    exact st_retc (t := t_built_long_built_text_1) (ss := fun o => ⟨[[.p (sV h0_0)], [.p (.sl false (h1_0.map c_api_Val))]], []⟩) h ⟨[], rfl, .refl _, .refl _, rfl⟩
noncomputable def strings_ReplaceAll (p0 : (List UInt8)) (p1 : (List UInt8)) (p2 : (List UInt8)) : Option ((List UInt8)) :=
  need (p0.length < 4294967281) >>= fun _ =>
  need (1 ≤ p1.length) >>= fun _ =>
  need (p0.length + Lib.countB ⟨p0.toArray⟩ ⟨p1.toArray⟩ * p2.length ≤ 140737488355328) >>= fun _ =>
  some (Lib.replaceAll p0 p1 p2)
set_option maxRecDepth 100000 in
set_option maxHeartbeats 4000000 in
theorem strings_ReplaceAll_ok : ∀ (p0 : (List UInt8)) (p1 : (List UInt8)) (p2 : (List UInt8)) (o : (List UInt8)), strings_ReplaceAll p0 p1 p2 = some o → PCall Tryz.prog 71 [sV p0, sV p1, sV p2] (t_strings_ReplaceAll o) := by
  intro p0 p1 p2 o h
  unfold strings_ReplaceAll at h
  obtain ⟨h1, h⟩ := need_some h
  obtain ⟨h2, h⟩ := need_some h
  obtain ⟨h3, h⟩ := need_some h
  cases h
  exact replaceAll_ok _ _ _ h1 h2 h3
noncomputable def built_text_2 (h0_0 : (List UInt8)) (h1_0 : (List UInt8)) (h2_0 : (List UInt8)) : Option ((List UInt8)) :=
  strings_ReplaceAll h0_0 h1_0 h2_0 >>= fun x1 =>
  some x1
set_option maxRecDepth 100000 in
set_option maxHeartbeats 4000000 in
theorem built_text_2_ok : ∀ (h0_0 : (List UInt8)) (h1_0 : (List UInt8)) (h2_0 : (List UInt8)) (o : (List UInt8)), built_text_2 h0_0 h1_0 h2_0 = some o → CallOK Tryz.prog 70 [.ptr 0 0, .ptr 1 0, .ptr 2 0] ⟨[[.p (sV h0_0)], [.p (sV h1_0)], [.p (sV h2_0)]], []⟩ (t_built_text_2 o) ⟨[[.p (sV h0_0)], [.p (sV h1_0)], [.p (sV h2_0)]], []⟩ := by
  intro h0_0 h1_0 h2_0 o h
  unfold built_text_2 at h
  refine CallOK.ofB mixed tbOk built_text_2_lv Tryz.func70 rfl (by kernel_rfl) (Nat.le_of_ble_eq_true rfl) rfl rfl rfl ?_
  refine st_call [sV h0_0, sV h1_0, sV h2_0] t_strings_ReplaceAll h (fun x1 hy => (strings_ReplaceAll_ok h0_0 h1_0 h2_0 x1 hy)) (fun x1 hy h => ?_)
  refine Exists.intro _ (And.intro (Le.refl _ _ _) ?_)
  exact st_retc (t := t_built_text_2) (ss := fun o => ⟨[[.p (sV h0_0)], [.p (sV h1_0)], [.p (sV h2_0)]], []⟩) h ⟨[], rfl, .refl _, .refl _, rfl⟩
noncomputable def built_long_built_text_2 (p0 : Int) (h0_0 : (List UInt8)) (h1_0 : (List UInt8)) (h2_0 : (List UInt8)) : Option (api_Val × Int) :=
  if (decide (p0 > 65536)) then
    some ((api_Val.mk 0 [] 0 false []), 204)
  else
    built_text_2 h0_0 h1_0 h2_0 >>= fun x1 =>
    schema_Text x1 >>= fun x2 =>
    some (x2, 0)
set_option maxRecDepth 100000 in
set_option maxHeartbeats 4000000 in
theorem built_long_built_text_2_ok : ∀ (p0 : Int) (h0_0 : (List UInt8)) (h1_0 : (List UInt8)) (h2_0 : (List UInt8)) (o : api_Val × Int), built_long_built_text_2 p0 h0_0 h1_0 h2_0 = some o → CallOK Tryz.prog 60 [.p (iV p0), .fn (.func 70) [] [.ptr 0 0, .ptr 1 0, .ptr 2 0]] ⟨[[.p (sV h0_0)], [.p (sV h1_0)], [.p (sV h2_0)]], []⟩ (t_built_long_built_text_2 o) ⟨[[.p (sV h0_0)], [.p (sV h1_0)], [.p (sV h2_0)]], []⟩ := by
  intro p0 h0_0 h1_0 h2_0 o h
  unfold built_long_built_text_2 at h
  refine CallOK.ofB mixed tbOk built_long_built_text_2_lv Tryz.func60 rfl (by kernel_rfl) (Nat.le_of_ble_eq_true rfl) rfl rfl rfl ?_
  refine st_test h (fun hb h => ?_) (fun hb h => ?_)
  · refine Exists.intro _ (And.intro (Le.refl _ _ _) ?_)
    exact st_retc (t := t_built_long_built_text_2) (ss := fun o => ⟨[[.p (sV h0_0)], [.p (sV h1_0)], [.p (sV h2_0)]], []⟩) h ⟨[], rfl, .tup (xs := [.agg [iV 0, sV [], iV 0, bV false, .sl true []], iV 204]) (ys := [.agg [iV 0, sV [], iV 0, bV false, .sl false []], iV 204]) (.cons (.agg' (.cons (.refl _) (.cons (.refl _) (.cons (.refl _) (.cons (.refl _) (.cons (.not) (.nil))))))) (.cons (.refl _) (.nil))), .refl _, rfl⟩
  · refine st_callc _ _ h (fun x1 hy => ((built_text_2_ok h0_0 h1_0 h2_0 x1 hy).fr [0, 1, 2] [] rfl rfl rfl)) (fun x1 hy h => ?_)
    refine st_call [sV x1] t_schema_Text h (fun x2 hy => (schema_Text_ok x1 x2 hy)) (fun x2 hy h => ?_)
    refine Exists.intro _ (And.intro (Le.refl _ _ _) ?_)
    exact st_retc (t := t_built_long_built_text_2) (ss := fun o => ⟨[[.p (sV h0_0)], [.p (sV h1_0)], [.p (sV h2_0)]], []⟩) h ⟨[], rfl, .refl _, .refl _, rfl⟩
noncomputable def built_text_3 (h0_0 : (List UInt8)) : Option ((List UInt8)) :=
  some h0_0
set_option maxRecDepth 100000 in
set_option maxHeartbeats 4000000 in
theorem built_text_3_ok : ∀ (h0_0 : (List UInt8)) (o : (List UInt8)), built_text_3 h0_0 = some o → CallOK Tryz.prog 72 [.ptr 0 0] ⟨[[.p (sV h0_0)]], []⟩ (t_built_text_3 o) ⟨[[.p (sV h0_0)]], []⟩ := by
  intro h0_0 o h
  unfold built_text_3 at h
  refine CallOK.ofB mixed tbOk built_text_3_lv Tryz.func72 rfl (by kernel_rfl) (Nat.le_of_ble_eq_true rfl) rfl rfl rfl ?_
  refine Exists.intro _ (And.intro (Le.refl _ _ _) ?_)
  exact st_retc (t := t_built_text_3) (ss := fun o => ⟨[[.p (sV h0_0)]], []⟩) h ⟨[], rfl, .refl _, .refl _, rfl⟩
noncomputable def built_long_built_text_3 (p0 : Int) (h0_0 : (List UInt8)) : Option (api_Val × Int) :=
  if (decide (p0 > 65536)) then
    some ((api_Val.mk 0 [] 0 false []), 204)
  else
    built_text_3 h0_0 >>= fun x1 =>
    schema_Text x1 >>= fun x2 =>
    some (x2, 0)
set_option maxRecDepth 100000 in
set_option maxHeartbeats 4000000 in
theorem built_long_built_text_3_ok : ∀ (p0 : Int) (h0_0 : (List UInt8)) (o : api_Val × Int), built_long_built_text_3 p0 h0_0 = some o → CallOK Tryz.prog 60 [.p (iV p0), .fn (.func 72) [] [.ptr 0 0]] ⟨[[.p (sV h0_0)]], []⟩ (t_built_long_built_text_3 o) ⟨[[.p (sV h0_0)]], []⟩ := by
  intro p0 h0_0 o h
  unfold built_long_built_text_3 at h
  refine CallOK.ofB mixed tbOk built_long_built_text_3_lv Tryz.func60 rfl (by kernel_rfl) (Nat.le_of_ble_eq_true rfl) rfl rfl rfl ?_
  refine st_test h (fun hb h => ?_) (fun hb h => ?_)
  · refine Exists.intro _ (And.intro (Le.refl _ _ _) ?_)
    exact st_retc (t := t_built_long_built_text_3) (ss := fun o => ⟨[[.p (sV h0_0)]], []⟩) h ⟨[], rfl, .tup (xs := [.agg [iV 0, sV [], iV 0, bV false, .sl true []], iV 204]) (ys := [.agg [iV 0, sV [], iV 0, bV false, .sl false []], iV 204]) (.cons (.agg' (.cons (.refl _) (.cons (.refl _) (.cons (.refl _) (.cons (.refl _) (.cons (.not) (.nil))))))) (.cons (.refl _) (.nil))), .refl _, rfl⟩
  · refine st_callc _ _ h (fun x1 hy => ((built_text_3_ok h0_0 x1 hy).fr [0] [] rfl rfl rfl)) (fun x1 hy h => ?_)
    refine st_call [sV x1] t_schema_Text h (fun x2 hy => (schema_Text_ok x1 x2 hy)) (fun x2 hy h => ?_)
    refine Exists.intro _ (And.intro (Le.refl _ _ _) ?_)
    exact st_retc (t := t_built_long_built_text_3) (ss := fun o => ⟨[[.p (sV h0_0)]], []⟩) h ⟨[], rfl, .refl _, .refl _, rfl⟩
noncomputable def built_turned (p0 : (List UInt8)) (p1 : Int) (p2 : Int) : Option ((List UInt8)) :=
  need (p0.length ≤ 140737488355328) >>= fun _ =>
  some (trnL p1 p2 p0)
set_option maxRecDepth 100000 in
set_option maxHeartbeats 4000000 in
theorem built_turned_ok : ∀ (p0 : (List UInt8)) (p1 : Int) (p2 : Int) (o : (List UInt8)), built_turned p0 p1 p2 = some o → PCall Tryz.prog 65 [sV p0, nV .u8 p1, nV .u8 p2] (t_built_turned o) := by
  intro p0 p1 p2 o h
  unfold built_turned at h
  obtain ⟨h1, h⟩ := need_some h
  cases h
  exact turned_ok _ _ _ h1
noncomputable def schema_Find_L1 (p0 : api_Val) (p1 : (List UInt8)) (v19 : Int) : Option (Unit ⊕ (List UInt8)) :=
  if (decide (v19 < (p0.L.length : Int))) then
    idx p0.L v19 >>= fun x6 =>
    idx x6.L 0 >>= fun x7 =>
    if (x7.S == p1) then
      idx x6.L 1 >>= fun x8 =>
      some (.inr x8.S)
    else
      schema_Find_L1 p0 p1 (wr (v19 + 1))
  else
    some (.inl ())
  partial_fixpoint
set_option maxRecDepth 100000 in
set_option maxHeartbeats 4000000 in
theorem schema_Find_L1_grp : ∀ (p0 : api_Val) (p1 : (List UInt8)), (∀ (v19 : Int) (o3 : Unit ⊕ (List UInt8)), schema_Find_L1 p0 p1 v19 = some o3 → TL (0, 0) Tryz.prog 36 schema_Find_L1_c (JP2 (0, 0) 36 o3 (.exit 0) (schema_Find_L1_x0 p0 p1) .ret (schema_Find_L1_x1 p0 p1)) (schema_Find_L1_st p0 p1 v19)) := by
  intro p0 p1
  refine schema_Find_L1.partial_correctness p0 p1 _ ?_
  intro schema_Find_L1' ih_schema_Find_L1 v19 o3 h
  refine TL.round (bwp_sound mixed tbOk (lv := schema_Find_lv) _ _ _ ?_)
  refine st_test h (fun hb h => ?_) (fun hb h => ?_)
  · refine st_idx (l := p0.L) (c := c_api_Val) (c' := l_api_Val) h c_api_Val_eq (fun _ => rfl) (by decide) (fun x6 hi h => ?_)
    refine st_idx (l := x6.L) (c := c_api_Val) (c' := l_api_Val) h c_api_Val_eq (fun _ => rfl) (by decide) (fun x7 hi h => ?_)
    refine st_test h (fun hb h => ?_) (fun hb h => ?_)
    · refine st_idx (l := x6.L) (c := c_api_Val) (c' := l_api_Val) h c_api_Val_eq (fun _ => rfl) (by decide) (fun x8 hi h => ?_)
      exact JP2.b h (Le.tow 1 0 rfl (.cons rfl (.refl _) (.cons rfl (.refl _) (.nil))) (.refl _) rfl)
    · refine TL.le (τ := schema_Find_L1_st p0 p1 (wr (v19 + 1))) ?_ ((ih_schema_Find_L1 (wr (v19 + 1)) _ h))
      exact Le.tow 1 0 rfl (.cons rfl (.refl _) (.cons rfl (.refl _) (.cons rfl (.refl _) (.cons rfl (.refl _) (.nil))))) (.refl _) rfl
  · exact JP2.a h (Le.tow 1 0 rfl (.nil) (.refl _) rfl)
theorem schema_Find_L1_ok : ∀ (p0 : api_Val) (p1 : (List UInt8)) (v19 : Int) (o3 : Unit ⊕ (List UInt8)), schema_Find_L1 p0 p1 v19 = some o3 → TL (0, 0) Tryz.prog 36 schema_Find_L1_c (JP2 (0, 0) 36 o3 (.exit 0) (schema_Find_L1_x0 p0 p1) .ret (schema_Find_L1_x1 p0 p1)) (schema_Find_L1_st p0 p1 v19) := fun p0 p1 v19 o3 h => (schema_Find_L1_grp p0 p1) v19 o3 h
noncomputable def kind_Elem (p0 : Int) : Option (Int × Bool) :=
  if (p0 == 7) then
    some (1, true)
  else
    if (p0 == 8) then
      some (4, true)
    else
      if (p0 == 9) then
        some (5, true)
      else
        some (0, false)
set_option maxRecDepth 100000 in
set_option maxHeartbeats 4000000 in
theorem kind_Elem_ok : ∀ (p0 : Int) (o : Int × Bool), kind_Elem p0 = some o → PCall Tryz.prog 32 [iV p0] (t_kind_Elem o) := by
  intro p0 o h
  unfold kind_Elem at h
  refine PCall.ofB mixed tbOk kind_Elem_lv Tryz.func32 rfl (by kernel_rfl) (Nat.le_of_ble_eq_true rfl) ?_
  refine st_test h (fun hb h => ?_) (fun hb h => ?_)
  · refine st_ret (t := t_kind_Elem) h ?_
    exact .refl _
  · refine st_test h (fun hb h => ?_) (fun hb h => ?_)
    · refine st_ret (t := t_kind_Elem) h ?_
      exact .refl _
    · refine st_test h (fun hb h => ?_) (fun hb h => ?_)
      · refine st_ret (t := t_kind_Elem) h ?_
        exact .refl _
      · refine st_ret (t := t_kind_Elem) h ?_
        exact .refl _
noncomputable def kind_Fields_L1 (p0 : Int) (x1 : (List kind_field)) (v3 : (List (List UInt8))) (v8 : Int) : Option ((List (List UInt8))) :=
  if (decide (v8 < (x1.length : Int))) then
    idx x1 v8 >>= fun x3 =>
    if (x3.of_ == p0) then
      appL 16 v3 [x3.name_] >>= fun x4 =>
      kind_Fields_L1 p0 x1 x4 (wr (v8 + 1))
    else
      kind_Fields_L1 p0 x1 v3 (wr (v8 + 1))
  else
    some v3
  partial_fixpoint
set_option maxRecDepth 100000 in
set_option maxHeartbeats 4000000 in
theorem kind_Fields_L1_grp : ∀ (p0 : Int) (x1 : (List kind_field)), (∀ (v3 : (List (List UInt8))) (v8 : Int) (o2 : (List (List UInt8))), kind_Fields_L1 p0 x1 v3 v8 = some o2 → TL (0, 0) Tryz.prog 23 kind_Fields_L1_c (JP1 (0, 0) 23 o2 (.exit 0) (kind_Fields_L1_x0 p0 x1)) (kind_Fields_L1_st p0 x1 v3 v8)) := by
  intro p0 x1
  refine kind_Fields_L1.partial_correctness p0 x1 _ ?_
  intro kind_Fields_L1' ih_kind_Fields_L1 v3 v8 o2 h
  refine TL.round (bwp_sound mixed tbOk (lv := kind_Fields_lv) _ _ _ ?_)
  refine st_test h (fun hb h => ?_) (fun hb h => ?_)
  · refine st_idx (l := x1) (c := c_kind_field) (c' := c_kind_field) h (fun _ => rfl) (fun _ => rfl) (by decide) (fun x3 hi h => ?_)
    refine st_test h (fun hb h => ?_) (fun hb h => ?_)
    · refine st_appo (a := v3) (b := [x3.name_]) (c := cStr) h (.refl _) (fun _ => rfl) rfl (fun x4 hi h => ?_)
      refine TL.le (τ := kind_Fields_L1_st p0 x1 x4 (wr (v8 + 1))) ?_ ((ih_kind_Fields_L1 x4 (wr (v8 + 1)) _ h))
      exact Le.tow 0 1 rfl (.cons rfl (.refl _) (.cons rfl (.refl _) (.cons rfl (.refl _) (.cons rfl (.refl _) (.cons rfl (.refl _) (.nil)))))) (.refl _) rfl
    · refine TL.le (τ := kind_Fields_L1_st p0 x1 v3 (wr (v8 + 1))) ?_ ((ih_kind_Fields_L1 v3 (wr (v8 + 1)) _ h))
      exact Le.tow 0 1 rfl (.cons rfl (.refl _) (.cons rfl (.refl _) (.cons rfl (.refl _) (.cons rfl (.refl _) (.cons rfl (.refl _) (.nil)))))) (.refl _) rfl
  · exact JP1.a h (Le.tow 0 1 rfl (.cons rfl (.refl _) (.nil)) (.refl _) rfl)
theorem kind_Fields_L1_ok : ∀ (p0 : Int) (x1 : (List kind_field)) (v3 : (List (List UInt8))) (v8 : Int) (o2 : (List (List UInt8))), kind_Fields_L1 p0 x1 v3 v8 = some o2 → TL (0, 0) Tryz.prog 23 kind_Fields_L1_c (JP1 (0, 0) 23 o2 (.exit 0) (kind_Fields_L1_x0 p0 x1)) (kind_Fields_L1_st p0 x1 v3 v8) := fun p0 x1 v3 v8 o2 h => (kind_Fields_L1_grp p0 x1) v3 v8 o2 h
noncomputable def kind_table : Option ((List kind_field)) :=
  some ([(kind_field.mk 4 [107, 101, 121] 1), (kind_field.mk 4 [118, 97, 108] 1), (kind_field.mk 5 [102, 105, 114, 105, 110, 103] 3), (kind_field.mk 5 [115, 116, 97, 114, 116, 115] 2), (kind_field.mk 5 [118, 97, 108, 117, 101] 2), (kind_field.mk 5 [108, 97, 98, 101, 108, 115] 8), (kind_field.mk 5 [110, 111, 116, 101, 115] 8), (kind_field.mk 5 [108, 105, 110, 107] 1), (kind_field.mk 6 [114, 101, 99, 101, 105, 118, 101, 114] 1), (kind_field.mk 6 [102, 105, 114, 105, 110, 103] 3), (kind_field.mk 6 [99, 111, 109, 109, 111, 110] 8), (kind_field.mk 6 [108, 105, 110, 107] 1), (kind_field.mk 6 [97, 108, 101, 114, 116, 115] 9)])
set_option maxRecDepth 100000 in
set_option maxHeartbeats 4000000 in
theorem kind_table_ok : ∀ (o : (List kind_field)), kind_table  = some o → PCall Tryz.prog 58 [] (t_kind_table o) := by
  intro o h
  unfold kind_table at h
  refine PCall.ofB mixed tbOk kind_table_lv Tryz.func58 rfl (by kernel_rfl) (Nat.le_of_ble_eq_true rfl) ?_
  refine st_ret (t := t_kind_table) h ?_
  exact .p (.not)
noncomputable def kind_Fields (p0 : Int) : Option ((List (List UInt8))) :=
  kind_table >>= fun x1 =>
  (kind_Fields_L1 p0 x1 [] 0) >>= fun o2 =>
  some o2
set_option maxRecDepth 100000 in
set_option maxHeartbeats 4000000 in
theorem kind_Fields_ok : ∀ (p0 : Int) (o : (List (List UInt8))), kind_Fields p0 = some o → PCall Tryz.prog 36 [iV p0] (t_kind_Fields o) := by
  intro p0 o h
  unfold kind_Fields at h
  refine PCall.ofB mixed tbOk kind_Fields_lv Tryz.func36 rfl (by kernel_rfl) (Nat.le_of_ble_eq_true rfl) ?_
  refine st_call [] t_kind_table h (fun x1 hy => (kind_table_ok x1 hy)) (fun x1 hy h => ?_)
  refine view (lenMap _ _) rfl ?_
  refine st_bind h (fun o2 ho hk => ?_)
  refine Exists.intro (JP1 _ _ o2 (.exit 0) (kind_Fields_L1_x0 p0 x1)) (And.intro (T_le (τ := kind_Fields_L1_st p0 x1 [] 0) ?_ (TL.loop (kind_Fields_L1_ok p0 x1 [] 0 o2 ho))) (join1 ?_))
  · exact (Le.own 3 9 1 rfl sizeNil).trans (Le.tow 0 1 rfl (.cons rfl (.refl _) (.cons rfl (.refl _) (.cons rfl (.refl _) (.cons rfl (.refl _) (.cons rfl (.refl _) (.nil)))))) (.refl _) rfl)
  have h := hk
  refine st_ret (t := t_kind_Fields) h ?_
  exact .refl _
noncomputable def kind_Plain (p0 : Int) : Option (Bool) :=
  ( if (decide (p0 ≥ 1)) then
      some (decide (p0 ≤ 3))
    else
      some false : Option (Bool)) >>= fun o1 =>
  some o1
set_option maxRecDepth 100000 in
set_option maxHeartbeats 4000000 in
theorem kind_Plain_ok : ∀ (p0 : Int) (o : Bool), kind_Plain p0 = some o → PCall Tryz.prog 33 [iV p0] (t_kind_Plain o) := by
  intro p0 o h
  unfold kind_Plain at h
  refine PCall.ofB mixed tbOk kind_Plain_lv Tryz.func33 rfl (by kernel_rfl) (Nat.le_of_ble_eq_true rfl) ?_
  refine st_bind h (fun o1 ho hk => ?_)
  refine Exists.intro (JP1 _ _ o1 .normal (kind_Plain_J0_0 )) (And.intro ?_ (join1 ?_))
  · have h := ho
    refine st_test h (fun hb h => ?_) (fun hb h => ?_)
    · refine JP1.a h ?_
      exact Le.tow 0 0 rfl (.cons rfl (.refl _) (.nil)) (.refl _) rfl
    · refine JP1.a h ?_
      exact Le.tow 0 0 rfl (.cons rfl (.refl _) (.nil)) (.refl _) rfl
  · have h := hk
    refine st_ret (t := t_kind_Plain) h ?_
    exact .refl _
noncomputable def kind_Field_L1 (p0 : Int) (p1 : (List UInt8)) (x1 : (List kind_field)) (v10 : Int) : Option (Unit ⊕ Int) :=
  if (decide (v10 < (x1.length : Int))) then
    idx x1 v10 >>= fun x5 =>
    ( if (x5.of_ == p0) then
        some (x5.name_ == p1)
      else
        some false : Option (Bool)) >>= fun o6 =>
    if o6 then
      some (.inr x5.is_)
    else
      kind_Field_L1 p0 p1 x1 (wr (v10 + 1))
  else
    some (.inl ())
  partial_fixpoint
set_option maxRecDepth 100000 in
set_option maxHeartbeats 4000000 in
theorem kind_Field_L1_grp : ∀ (p0 : Int) (p1 : (List UInt8)) (x1 : (List kind_field)), (∀ (v10 : Int) (o2 : Unit ⊕ Int), kind_Field_L1 p0 p1 x1 v10 = some o2 → TL (0, 0) Tryz.prog 27 kind_Field_L1_c (JP2 (0, 0) 27 o2 (.exit 0) (kind_Field_L1_x0 p0 p1 x1) .ret (kind_Field_L1_x1 p0 p1 x1)) (kind_Field_L1_st p0 p1 x1 v10)) := by
  intro p0 p1 x1
  refine kind_Field_L1.partial_correctness p0 p1 x1 _ ?_
  intro kind_Field_L1' ih_kind_Field_L1 v10 o2 h
  refine TL.round (bwp_sound mixed tbOk (lv := kind_Field_lv) _ _ _ ?_)
  refine st_test h (fun hb h => ?_) (fun hb h => ?_)
  · refine st_idx (l := x1) (c := c_kind_field) (c' := c_kind_field) h (fun _ => rfl) (fun _ => rfl) (by decide) (fun x5 hi h => ?_)
    refine st_bind h (fun o6 ho hk => ?_)
    refine Exists.intro (JP1 _ _ o6 .normal (kind_Field_J0_0 p0 p1 x1 v10 x5)) (And.intro ?_ (join1 ?_))
    · have h := ho
      refine st_test h (fun hb h => ?_) (fun hb h => ?_)
      · refine JP1.a h ?_
        exact Le.tow 1 0 rfl (.cons rfl (.refl _) (.cons rfl (.refl _) (.cons rfl (.refl _) (.cons rfl (.refl _) (.cons rfl (.refl _) (.cons rfl (.refl _) (.cons rfl (.refl _) (.nil)))))))) (.refl _) rfl
      · refine JP1.a h ?_
        exact Le.tow 1 0 rfl (.cons rfl (.refl _) (.cons rfl (.refl _) (.cons rfl (.refl _) (.cons rfl (.refl _) (.cons rfl (.refl _) (.cons rfl (.refl _) (.cons rfl (.refl _) (.nil)))))))) (.refl _) rfl
    · have h := hk
      refine st_test h (fun hb h => ?_) (fun hb h => ?_)
      · exact JP2.b h (Le.tow 0 0 rfl (.cons rfl (.refl _) (.cons rfl (.refl _) (.nil))) (.refl _) rfl)
      · refine TL.le (τ := kind_Field_L1_st p0 p1 x1 (wr (v10 + 1))) ?_ ((ih_kind_Field_L1 (wr (v10 + 1)) _ h))
        exact Le.tow 0 0 rfl (.cons rfl (.refl _) (.cons rfl (.refl _) (.cons rfl (.refl _) (.cons rfl (.refl _) (.cons rfl (.refl _) (.nil)))))) (.refl _) rfl
  · exact JP2.a h (Le.tow 0 0 rfl (.nil) (.refl _) rfl)
theorem kind_Field_L1_ok : ∀ (p0 : Int) (p1 : (List UInt8)) (x1 : (List kind_field)) (v10 : Int) (o2 : Unit ⊕ Int), kind_Field_L1 p0 p1 x1 v10 = some o2 → TL (0, 0) Tryz.prog 27 kind_Field_L1_c (JP2 (0, 0) 27 o2 (.exit 0) (kind_Field_L1_x0 p0 p1 x1) .ret (kind_Field_L1_x1 p0 p1 x1)) (kind_Field_L1_st p0 p1 x1 v10) := fun p0 p1 x1 v10 o2 h => (kind_Field_L1_grp p0 p1 x1) v10 o2 h
noncomputable def kind_Field (p0 : Int) (p1 : (List UInt8)) : Option (Int × Bool) :=
  kind_table >>= fun x1 =>
  (kind_Field_L1 p0 p1 x1 0) >>= fun o2 =>
  match o2 with
  | .inl y3 =>
    some (0, false)
  | .inr y4 =>
    some (y4, true)
set_option maxRecDepth 100000 in
set_option maxHeartbeats 4000000 in
theorem kind_Field_ok : ∀ (p0 : Int) (p1 : (List UInt8)) (o : Int × Bool), kind_Field p0 p1 = some o → PCall Tryz.prog 37 [iV p0, sV p1] (t_kind_Field o) := by
  intro p0 p1 o h
  unfold kind_Field at h
  refine PCall.ofB mixed tbOk kind_Field_lv Tryz.func37 rfl (by kernel_rfl) (Nat.le_of_ble_eq_true rfl) ?_
  refine st_call [] t_kind_table h (fun x1 hy => (kind_table_ok x1 hy)) (fun x1 hy h => ?_)
  refine view (lenMap _ _) rfl ?_
  refine st_bind h (fun o2 ho hk => ?_)
  refine Exists.intro (JP2 _ _ o2 (.exit 0) (kind_Field_L1_x0 p0 p1 x1) .ret (kind_Field_L1_x1 p0 p1 x1)) (And.intro (T_le (τ := kind_Field_L1_st p0 p1 x1 0) ?_ (TL.loop (kind_Field_L1_ok p0 p1 x1 0 o2 ho))) (join2 (fun y3 hy => ?_) (fun y4 hy => ?_)))
  · exact Le.tow 0 0 rfl (.cons rfl (.refl _) (.cons rfl (.refl _) (.cons rfl (.refl _) (.cons rfl (.refl _) (.cons rfl (.refl _) (.nil)))))) (.refl _) rfl
  · have h := (by rw [hy] at hk; exact hk)
    refine st_ret (t := t_kind_Field) h ?_
    exact .refl _
  · have h := (by rw [hy] at hk; exact hk)
    refine st_ret (t := t_kind_Field) h ?_
    exact .refl _
mutual
noncomputable def schema_Is (p0 : api_Val) : Option (Bool) :=
  ( if (p0.K == 1) then
      some (p0.S, 0, false)
    else
      if (p0.K == 2) then
        some ([], p0.N, false)
      else
        if (p0.K == 3) then
          some ([], 0, p0.B)
        else
          some ([], 0, false) : Option (((List UInt8) × Int × Bool))) >>= fun o1 =>
  ( if (!(o1.1 == p0.S)) then
      some true
    else
      if (o1.2.1 != p0.N) then
        some true
      else
        some (o1.2.2 != p0.B) : Option (Bool)) >>= fun o2 =>
  if o2 then
    some false
  else
    kind_Plain p0.K >>= fun x3 =>
    if x3 then
      some ((p0.L.length : Int) == 0)
    else
      kind_Elem p0.K >>= fun x4 =>
      if x4.2 then
        ( if (decide ((p0.L.length : Int) ≤ 4096)) then
            slices_ContainsFunc_api_Val_api_Val_schema_Is_1 p0.L x4.1 >>= fun x6 =>
            some (!x6)
          else
            some false : Option (Bool)) >>= fun o5 =>
        some o5
      else
        kind_Fields p0.K >>= fun x7 =>
        ( if ((x7.length : Int) == 0) then
            some true
          else
            some ((x7.length : Int) != (p0.L.length : Int)) : Option (Bool)) >>= fun o8 =>
        if o8 then
          some false
        else
          (schema_Is_L1 p0 o1 x4 x7 0) >>= fun o9 =>
          match o9 with
          | .inl y10 =>
            some true
          | .inr y11 =>
            some false
  partial_fixpoint
noncomputable def schema_Is_L1 (p0 : api_Val) (o1 : (List UInt8) × Int × Bool) (x4 : Int × Bool) (x7 : (List (List UInt8))) (v93 : Int) : Option (Unit ⊕ Unit) :=
  if (decide (v93 < (x7.length : Int))) then
    idx x7 v93 >>= fun x12 =>
    kind_Field p0.K x12 >>= fun x13 =>
    ( idx p0.L v93 >>= fun x15 =>
      if (x15.K != x13.1) then
        some true
      else
        idx p0.L v93 >>= fun x16 =>
        schema_Is x16 >>= fun x17 =>
        some (!x17) : Option (Bool)) >>= fun o14 =>
    if o14 then
      some (.inr ())
    else
      schema_Is_L1 p0 o1 x4 x7 (wr (v93 + 1))
  else
    some (.inl ())
  partial_fixpoint
noncomputable def slices_ContainsFunc_api_Val_api_Val_schema_Is_1 (p0 : (List api_Val)) (h0_0 : Int) : Option (Bool) :=
  slices_IndexFunc_api_Val_api_Val_schema_Is_1 p0 h0_0 >>= fun x1 =>
  some (decide (x1 ≥ 0))
  partial_fixpoint
noncomputable def slices_IndexFunc_api_Val_api_Val_schema_Is_1 (p0 : (List api_Val)) (h0_0 : Int) : Option (Int) :=
  (slices_IndexFunc_api_Val_api_Val_schema_Is_1_L1 p0 h0_0 0) >>= fun o1 =>
  match o1 with
  | .inl y2 =>
    some (-1)
  | .inr y3 =>
    some y3
  partial_fixpoint
noncomputable def slices_IndexFunc_api_Val_api_Val_schema_Is_1_L1 (p0 : (List api_Val)) (h0_0 : Int) (v8 : Int) : Option (Unit ⊕ Int) :=
  if (decide (v8 < (p0.length : Int))) then
    idx p0 v8 >>= fun x4 =>
    schema_Is_1 x4 h0_0 >>= fun x5 =>
    if x5 then
      some (.inr v8)
    else
      slices_IndexFunc_api_Val_api_Val_schema_Is_1_L1 p0 h0_0 (wr (v8 + 1))
  else
    some (.inl ())
  partial_fixpoint
noncomputable def schema_Is_1 (p0 : api_Val) (h0_0 : Int) : Option (Bool) :=
  ( if (p0.K != h0_0) then
      some true
    else
      schema_Is p0 >>= fun x2 =>
      some (!x2) : Option (Bool)) >>= fun o1 =>
  some o1
  partial_fixpoint
end
set_option maxRecDepth 100000 in
set_option maxHeartbeats 4000000 in
theorem schema_Is_grp : (∀ (p0 : api_Val) (o : Bool), schema_Is p0 = some o → PCall Tryz.prog 19 [.agg [iV p0.K, sV p0.S, iV p0.N, bV p0.B, .sl false (p0.L.map c_api_Val)]] (t_schema_Is o)) ∧ (∀ (p0 : api_Val) (o1 : (List UInt8) × Int × Bool) (x4 : Int × Bool) (x7 : (List (List UInt8))) (v93 : Int) (o9 : Unit ⊕ Unit), schema_Is_L1 p0 o1 x4 x7 v93 = some o9 → TL (0, 0) Tryz.prog 123 schema_Is_L1_c (JP2 (0, 0) 123 o9 (.exit 1) (schema_Is_L1_x0 p0 o1 x4 x7) .ret (schema_Is_L1_x1 p0 o1 x4 x7)) (schema_Is_L1_st p0 o1 x4 x7 v93)) ∧ (∀ (p0 : (List api_Val)) (h0_0 : Int) (o : Bool), slices_ContainsFunc_api_Val_api_Val_schema_Is_1 p0 h0_0 = some o → CallOK Tryz.prog 17 [.p (.sl false (p0.map c_api_Val)), .fn (.func 35) [] [.ptr 0 0]] ⟨[[.p (iV h0_0)]], []⟩ (t_slices_ContainsFunc_api_Val_api_Val_schema_Is_1 o) ⟨[[.p (iV h0_0)]], []⟩) ∧ (∀ (p0 : (List api_Val)) (h0_0 : Int) (o : Int), slices_IndexFunc_api_Val_api_Val_schema_Is_1 p0 h0_0 = some o → CallOK Tryz.prog 34 [.p (.sl false (p0.map c_api_Val)), .fn (.func 35) [] [.ptr 0 0]] ⟨[[.p (iV h0_0)]], []⟩ (t_slices_IndexFunc_api_Val_api_Val_schema_Is_1 o) ⟨[[.p (iV h0_0)]], []⟩) ∧ (∀ (p0 : (List api_Val)) (h0_0 : Int) (v8 : Int) (o1 : Unit ⊕ Int), slices_IndexFunc_api_Val_api_Val_schema_Is_1_L1 p0 h0_0 v8 = some o1 → TL (1, 0) Tryz.prog 19 slices_IndexFunc_api_Val_api_Val_schema_Is_1_L1_c (JP2 (1, 0) 19 o1 (.exit 0) (slices_IndexFunc_api_Val_api_Val_schema_Is_1_L1_x0 p0 h0_0) .ret (slices_IndexFunc_api_Val_api_Val_schema_Is_1_L1_x1 p0 h0_0)) (slices_IndexFunc_api_Val_api_Val_schema_Is_1_L1_st p0 h0_0 v8)) ∧ (∀ (p0 : api_Val) (h0_0 : Int) (o : Bool), schema_Is_1 p0 h0_0 = some o → CallOK Tryz.prog 35 [.p (.agg [iV p0.K, sV p0.S, iV p0.N, bV p0.B, .sl false (p0.L.map c_api_Val)]), .ptr 0 0] ⟨[[.p (iV h0_0)]], []⟩ (t_schema_Is_1 o) ⟨[[.p (iV h0_0)]], []⟩) := by
  refine schema_Is.mutual_partial_correctness _ _ _ _ _ _ ?_ ?_ ?_ ?_ ?_ ?_
  · intro schema_Is_L1' slices_ContainsFunc_api_Val_api_Val_schema_Is_1' ih_schema_Is_L1 ih_slices_ContainsFunc_api_Val_api_Val_schema_Is_1 p0 o h
    refine PCall.ofB mixed tbOk schema_Is_lv Tryz.func19 rfl (by kernel_rfl) (Nat.le_of_ble_eq_true rfl) ?_
    refine st_bind h (fun o1 ho hk => ?_)
    refine Exists.intro (JP1 _ _ o1 .normal (schema_Is_J0_0 p0)) (And.intro ?_ (join1 ?_))
    · have h := ho
      refine st_test h (fun hb h => ?_) (fun hb h => ?_)
      · refine JP1.a h ?_
        exact Le.tow 2 0 rfl (.cons rfl (.refl _) (.cons rfl (.refl _) (.nil))) (.refl _) rfl
      · refine st_test h (fun hb h => ?_) (fun hb h => ?_)
        · refine JP1.a h ?_
          exact Le.tow 2 0 rfl (.cons rfl (.refl _) (.cons rfl (.refl _) (.nil))) (.refl _) rfl
        · refine st_test h (fun hb h => ?_) (fun hb h => ?_)
          · refine JP1.a h ?_
            exact Le.tow 2 0 rfl (.cons rfl (.refl _) (.cons rfl (.refl _) (.nil))) (.refl _) rfl
          · refine JP1.a h ?_
            exact Le.tow 2 0 rfl (.cons rfl (.refl _) (.cons rfl (.refl _) (.nil))) (.refl _) rfl
    · have h := hk
      refine st_bind h (fun o2 ho hk => ?_)
      refine Exists.intro (JP1 _ _ o2 .normal (schema_Is_J1_0 p0 o1)) (And.intro ?_ (join1 ?_))
      · have h := ho
        refine st_test h (fun hb h => ?_) (fun hb h => ?_)
        · refine bT ?_
          refine JP1.a h ?_
          exact Le.tow 2 0 rfl (.cons rfl (.refl _) (.cons rfl (.refl _) (.nil))) (.refl _) rfl
        · refine st_test h (fun hb h => ?_) (fun hb h => ?_)
          · refine JP1.a h ?_
            exact Le.tow 2 0 rfl (.cons rfl (.refl _) (.cons rfl (.refl _) (.nil))) (.refl _) rfl
          · refine JP1.a h ?_
            exact Le.tow 2 0 rfl (.cons rfl (.refl _) (.cons rfl (.refl _) (.nil))) (.refl _) rfl
      · have h := hk
        refine st_test h (fun hb h => ?_) (fun hb h => ?_)
        · refine st_ret (t := t_schema_Is) h ?_
          exact .refl _
        · refine st_call [iV p0.K] t_kind_Plain h (fun x3 hy => (kind_Plain_ok p0.K x3 hy)) (fun x3 hy h => ?_)
          refine st_test h (fun hb h => ?_) (fun hb h => ?_)
          · refine view (lenMap _ _) rfl ?_
            refine st_ret (t := t_schema_Is) h ?_
            exact .refl _
          · refine st_call [iV p0.K] t_kind_Elem h (fun x4 hy => (kind_Elem_ok p0.K x4 hy)) (fun x4 hy h => ?_)
            refine st_test h (fun hb h => ?_) (fun hb h => ?_)
            · refine st_bind h (fun o5 ho hk => ?_)
              refine Exists.intro (JP1 _ _ o5 .normal (schema_Is_J2_0 p0 o1 x4)) (And.intro ?_ (join1 ?_))
              · have h := ho
                refine view (lenMap _ _) rfl ?_
                refine st_test h (fun hb h => ?_) (fun hb h => ?_)
                · refine st_callc _ _ h (fun x6 hy => ((ih_slices_ContainsFunc_api_Val_api_Val_schema_Is_1 p0.L x4.1 x6 hy).fr [2] [] rfl rfl rfl)) (fun x6 hy h => ?_)
                  refine JP1.a h ?_
                  exact Le.tow 3 0 rfl (.cons rfl (.refl _) (.nil)) (.refl _) rfl
                · refine JP1.a h ?_
                  exact Le.tow 3 0 rfl (.cons rfl (.refl _) (.nil)) (.refl _) rfl
              · have h := hk
                refine st_ret (t := t_schema_Is) h ?_
                exact .refl _
            · refine st_call [iV p0.K] t_kind_Fields h (fun x7 hy => (kind_Fields_ok p0.K x7 hy)) (fun x7 hy h => ?_)
              refine st_bind h (fun o8 ho hk => ?_)
              refine Exists.intro (JP1 _ _ o8 .normal (schema_Is_J3_0 p0 o1 x4 x7)) (And.intro ?_ (join1 ?_))
              · have h := ho
                refine view (lenMap _ _) rfl ?_
                refine st_test h (fun hb h => ?_) (fun hb h => ?_)
                · refine JP1.a h ?_
                  exact Le.tow 3 0 rfl (.cons rfl (.refl _) (.cons rfl (.refl _) (.cons rfl (.refl _) (.nil)))) (.refl _) rfl
                · refine view (lenMap _ _) rfl ?_
                  refine view (lenMap _ _) rfl ?_
                  refine JP1.a h ?_
                  exact Le.tow 3 0 rfl (.cons rfl (.refl _) (.cons rfl (.refl _) (.cons rfl (.refl _) (.nil)))) (.refl _) rfl
              · have h := hk
                refine st_test h (fun hb h => ?_) (fun hb h => ?_)
                · refine st_ret (t := t_schema_Is) h ?_
                  exact .refl _
                · refine view (lenMap _ _) rfl ?_
                  refine st_bind h (fun o9 ho hk => ?_)
                  refine Exists.intro (JP2 _ _ o9 (.exit 1) (schema_Is_L1_x0 p0 o1 x4 x7) .ret (schema_Is_L1_x1 p0 o1 x4 x7)) (And.intro (T_le (τ := schema_Is_L1_st p0 o1 x4 x7 0) ?_ (TL.loop (ih_schema_Is_L1 p0 o1 x4 x7 0 o9 ho))) (join2 (fun y10 hy => ?_) (fun y11 hy => ?_)))
                  · exact Le.tow 3 0 rfl (.cons rfl (.refl _) (.cons rfl (.refl _) (.cons rfl (.refl _) (.cons rfl (.refl _) (.nil))))) (.refl _) rfl
                  · have h := (by rw [hy] at hk; exact hk)
                    refine st_ret (t := t_schema_Is) h ?_
                    exact .refl _
                  · have h := (by rw [hy] at hk; exact hk)
                    refine st_ret (t := t_schema_Is) h ?_
                    exact .refl _
  · intro schema_Is' schema_Is_L1' ih_schema_Is ih_schema_Is_L1 p0 o1 x4 x7 v93 o9 h
    refine TL.round (bwp_sound mixed tbOk (lv := schema_Is_lv) _ _ _ ?_)
    refine st_test h (fun hb h => ?_) (fun hb h => ?_)
    · refine st_idx (l := x7) (c := cStr) (c' := cStr) h (fun _ => rfl) (fun _ => rfl) (by decide) (fun x12 hi h => ?_)
      refine st_call [iV p0.K, sV x12] t_kind_Field h (fun x13 hy => (kind_Field_ok p0.K x12 x13 hy)) (fun x13 hy h => ?_)
      refine st_bind h (fun o14 ho hk => ?_)
      refine Exists.intro (JP1 _ _ o14 .normal (schema_Is_J4_0 p0 o1 x4 x7 v93)) (And.intro ?_ (join1 ?_))
      · have h := ho
        refine st_idx (l := p0.L) (c := c_api_Val) (c' := l_api_Val) h c_api_Val_eq (fun _ => rfl) (by decide) (fun x15 hi h => ?_)
        refine st_test h (fun hb h => ?_) (fun hb h => ?_)
        · refine JP1.a h ?_
          exact Le.tow 3 0 rfl (.cons rfl (.refl _) (.cons rfl (.refl _) (.cons rfl (.refl _) (.cons rfl (.refl _) (.cons rfl (.refl _) (.nil)))))) (.refl _) rfl
        · refine st_idx (l := p0.L) (c := c_api_Val) (c' := l_api_Val) h c_api_Val_eq (fun _ => rfl) (by decide) (fun x16 hi h => ?_)
          refine st_call [.agg [iV x16.K, sV x16.S, iV x16.N, bV x16.B, .sl false (x16.L.map c_api_Val)]] t_schema_Is h (fun x17 hy => (ih_schema_Is x16 x17 hy)) (fun x17 hy h => ?_)
          refine JP1.a h ?_
          exact Le.tow 3 0 rfl (.cons rfl (.refl _) (.cons rfl (.refl _) (.cons rfl (.refl _) (.cons rfl (.refl _) (.cons rfl (.refl _) (.nil)))))) (.refl _) rfl
      · have h := hk
        refine st_test h (fun hb h => ?_) (fun hb h => ?_)
        · exact JP2.b h (Le.tow 3 0 rfl (.cons rfl (.refl _) (.nil)) (.refl _) rfl)
        · refine TL.le (τ := schema_Is_L1_st p0 o1 x4 x7 (wr (v93 + 1))) ?_ ((ih_schema_Is_L1 p0 o1 x4 x7 (wr (v93 + 1)) _ h))
          exact Le.tow 3 0 rfl (.cons rfl (.refl _) (.cons rfl (.refl _) (.cons rfl (.refl _) (.cons rfl (.refl _) (.nil))))) (.refl _) rfl
    · exact JP2.a h (Le.tow 3 0 rfl (.nil) (.refl _) rfl)
  · intro slices_IndexFunc_api_Val_api_Val_schema_Is_1' ih_slices_IndexFunc_api_Val_api_Val_schema_Is_1 p0 h0_0 o h
    refine CallOK.ofB mixed tbOk slices_ContainsFunc_api_Val_api_Val_schema_Is_1_lv Tryz.func17 rfl (by kernel_rfl) (Nat.le_of_ble_eq_true rfl) rfl rfl rfl ?_
    refine st_callc _ _ h (fun x1 hy => ((ih_slices_IndexFunc_api_Val_api_Val_schema_Is_1 p0 h0_0 x1 hy).fr [0] [] rfl rfl rfl)) (fun x1 hy h => ?_)
    refine Exists.intro _ (And.intro (Le.refl _ _ _) ?_)
    exact st_retc (t := t_slices_ContainsFunc_api_Val_api_Val_schema_Is_1) (ss := fun o => ⟨[[.p (iV h0_0)]], []⟩) h ⟨[], rfl, .refl _, .refl _, rfl⟩
  · intro slices_IndexFunc_api_Val_api_Val_schema_Is_1_L1' ih_slices_IndexFunc_api_Val_api_Val_schema_Is_1_L1 p0 h0_0 o h
    refine CallOK.ofB mixed tbOk slices_IndexFunc_api_Val_api_Val_schema_Is_1_lv Tryz.func34 rfl (by kernel_rfl) (Nat.le_of_ble_eq_true rfl) rfl rfl rfl ?_
    refine view (lenMap _ _) rfl ?_
    refine st_bind h (fun o1 ho hk => ?_)
    refine Exists.intro (JP2 _ _ o1 (.exit 0) (slices_IndexFunc_api_Val_api_Val_schema_Is_1_L1_x0 p0 h0_0) .ret (slices_IndexFunc_api_Val_api_Val_schema_Is_1_L1_x1 p0 h0_0)) (And.intro (T_le (τ := slices_IndexFunc_api_Val_api_Val_schema_Is_1_L1_st p0 h0_0 0) ?_ (TL.loop (ih_slices_IndexFunc_api_Val_api_Val_schema_Is_1_L1 p0 h0_0 0 o1 ho))) (join2 (fun y2 hy => ?_) (fun y3 hy => ?_)))
    · exact Le.tow 1 0 rfl (.cons rfl (.refl _) (.cons rfl (.refl _) (.cons rfl (.refl _) (.cons rfl (.refl _) (.nil))))) (.refl _) rfl
    · have h := (by rw [hy] at hk; exact hk)
      refine Exists.intro _ (And.intro (Le.refl _ _ _) ?_)
      exact st_retc (t := t_slices_IndexFunc_api_Val_api_Val_schema_Is_1) (ss := fun o => ⟨[[.p (iV h0_0)]], []⟩) h ⟨[], rfl, .refl _, .refl _, rfl⟩
    · have h := (by rw [hy] at hk; exact hk)
      refine Exists.intro _ (And.intro (Le.refl _ _ _) ?_)
      exact st_retc (t := t_slices_IndexFunc_api_Val_api_Val_schema_Is_1) (ss := fun o => ⟨[[.p (iV h0_0)]], []⟩) h ⟨[], rfl, .refl _, .refl _, rfl⟩
  · intro slices_IndexFunc_api_Val_api_Val_schema_Is_1_L1' schema_Is_1' ih_slices_IndexFunc_api_Val_api_Val_schema_Is_1_L1 ih_schema_Is_1 p0 h0_0 v8 o1 h
    refine TL.round (bwp_sound mixed tbOk (lv := slices_IndexFunc_api_Val_api_Val_schema_Is_1_lv) _ _ _ ?_)
    refine st_test h (fun hb h => ?_) (fun hb h => ?_)
    · refine st_idx (l := p0) (c := c_api_Val) (c' := l_api_Val) h c_api_Val_eq (fun _ => rfl) (by decide) (fun x4 hi h => ?_)
      refine st_callc _ _ h (fun x5 hy => ((ih_schema_Is_1 x4 h0_0 x5 hy).fr [0] [] rfl rfl rfl)) (fun x5 hy h => ?_)
      refine st_test h (fun hb h => ?_) (fun hb h => ?_)
      · exact JP2.b h (Le.tow 1 0 rfl (.cons rfl (.refl _) (.nil)) (.refl _) rfl)
      · refine TL.le (τ := slices_IndexFunc_api_Val_api_Val_schema_Is_1_L1_st p0 h0_0 (wr (v8 + 1))) ?_ ((ih_slices_IndexFunc_api_Val_api_Val_schema_Is_1_L1 p0 h0_0 (wr (v8 + 1)) _ h))
        exact Le.tow 1 0 rfl (.cons rfl (.refl _) (.cons rfl (.refl _) (.cons rfl (.refl _) (.cons rfl (.refl _) (.nil))))) (.refl _) rfl
    · exact JP2.a h (Le.tow 1 0 rfl (.nil) (.refl _) rfl)
  · intro schema_Is' ih_schema_Is p0 h0_0 o h
    refine CallOK.ofB mixed tbOk schema_Is_1_lv Tryz.func35 rfl (by kernel_rfl) (Nat.le_of_ble_eq_true rfl) rfl rfl rfl ?_
    refine st_bind h (fun o1 ho hk => ?_)
    refine Exists.intro (JP1 _ _ o1 .normal (schema_Is_1_J0_0 p0 h0_0)) (And.intro ?_ (join1 ?_))
    · have h := ho
      refine st_test h (fun hb h => ?_) (fun hb h => ?_)
      · refine JP1.a h ?_
        exact Le.tow 2 0 rfl (.cons rfl (.refl _) (.nil)) (.refl _) rfl
      · refine st_call [.agg [iV p0.K, sV p0.S, iV p0.N, bV p0.B, .sl false (p0.L.map c_api_Val)]] t_schema_Is h (fun x2 hy => (ih_schema_Is p0 x2 hy)) (fun x2 hy h => ?_)
        refine JP1.a h ?_
        exact Le.tow 2 0 rfl (.cons rfl (.refl _) (.nil)) (.refl _) rfl
    · have h := hk
      refine Exists.intro _ (And.intro (Le.refl _ _ _) ?_)
      exact st_retc (t := t_schema_Is_1) (ss := fun o => ⟨[[.p (iV h0_0)]], []⟩) h ⟨[], rfl, .refl _, .refl _, rfl⟩
theorem schema_Is_ok : ∀ (p0 : api_Val) (o : Bool), schema_Is p0 = some o → PCall Tryz.prog 19 [.agg [iV p0.K, sV p0.S, iV p0.N, bV p0.B, .sl false (p0.L.map c_api_Val)]] (t_schema_Is o) := fun p0 o h => schema_Is_grp.1 p0 o h
noncomputable def schema_Find (p0 : api_Val) (p1 : (List UInt8)) : Option ((List UInt8) × Bool) :=
  ( if (p0.K != 8) then
      some true
    else
      schema_Is p0 >>= fun x2 =>
      some (!x2) : Option (Bool)) >>= fun o1 =>
  if o1 then
    some ([], false)
  else
    (schema_Find_L1 p0 p1 0) >>= fun o3 =>
    match o3 with
    | .inl y4 =>
      some ([], false)
    | .inr y5 =>
      some (y5, true)
set_option maxRecDepth 100000 in
set_option maxHeartbeats 4000000 in
theorem schema_Find_ok : ∀ (p0 : api_Val) (p1 : (List UInt8)) (o : (List UInt8) × Bool), schema_Find p0 p1 = some o → PCall Tryz.prog 42 [.agg [iV p0.K, sV p0.S, iV p0.N, bV p0.B, .sl false (p0.L.map c_api_Val)], sV p1] (t_schema_Find o) := by
  intro p0 p1 o h
  unfold schema_Find at h
  refine PCall.ofB mixed tbOk schema_Find_lv Tryz.func42 rfl (by kernel_rfl) (Nat.le_of_ble_eq_true rfl) ?_
  refine st_bind h (fun o1 ho hk => ?_)
  refine Exists.intro (JP1 _ _ o1 .normal (schema_Find_J0_0 p0 p1)) (And.intro ?_ (join1 ?_))
  · have h := ho
    refine st_test h (fun hb h => ?_) (fun hb h => ?_)
    · refine JP1.a h ?_
      exact Le.tow 1 0 rfl (.cons rfl (.refl _) (.cons rfl (.refl _) (.cons rfl (.refl _) (.nil)))) (.refl _) rfl
    · refine st_call [.agg [iV p0.K, sV p0.S, iV p0.N, bV p0.B, .sl false (p0.L.map c_api_Val)]] t_schema_Is h (fun x2 hy => (schema_Is_ok p0 x2 hy)) (fun x2 hy h => ?_)
      refine JP1.a h ?_
      exact Le.tow 1 0 rfl (.cons rfl (.refl _) (.cons rfl (.refl _) (.cons rfl (.refl _) (.nil)))) (.refl _) rfl
  · have h := hk
    refine st_test h (fun hb h => ?_) (fun hb h => ?_)
    · refine st_ret (t := t_schema_Find) h ?_
      exact .refl _
    · refine view (lenMap _ _) rfl ?_
      refine st_bind h (fun o3 ho hk => ?_)
      refine Exists.intro (JP2 _ _ o3 (.exit 0) (schema_Find_L1_x0 p0 p1) .ret (schema_Find_L1_x1 p0 p1)) (And.intro (T_le (τ := schema_Find_L1_st p0 p1 0) ?_ (TL.loop (schema_Find_L1_ok p0 p1 0 o3 ho))) (join2 (fun y4 hy => ?_) (fun y5 hy => ?_)))
      · exact Le.tow 1 0 rfl (.cons rfl (.refl _) (.cons rfl (.refl _) (.cons rfl (.refl _) (.cons rfl (.refl _) (.nil))))) (.refl _) rfl
      · have h := (by rw [hy] at hk; exact hk)
        refine st_ret (t := t_schema_Find) h ?_
        exact .refl _
      · have h := (by rw [hy] at hk; exact hk)
        refine st_ret (t := t_schema_Find) h ?_
        exact .refl _
noncomputable def strings_Count (p0 : (List UInt8)) (p1 : (List UInt8)) : Option (Int) :=
  need (p0.length < 4294967281) >>= fun _ =>
  need (1 ≤ p1.length) >>= fun _ =>
  some ((Lib.countB ⟨p0.toArray⟩ ⟨p1.toArray⟩ : Nat) : Int)
set_option maxRecDepth 100000 in
set_option maxHeartbeats 4000000 in
theorem strings_Count_ok : ∀ (p0 : (List UInt8)) (p1 : (List UInt8)) (o : Int), strings_Count p0 p1 = some o → PCall Tryz.prog 69 [sV p0, sV p1] (t_strings_Count o) := by
  intro p0 p1 o h
  unfold strings_Count at h
  obtain ⟨h1, h⟩ := need_some h
  obtain ⟨h2, h⟩ := need_some h
  cases h
  exact count_ok _ _ h1 h2
noncomputable def strings_Trim (p0 : (List UInt8)) (p1 : (List UInt8)) : Option ((List UInt8)) :=
  need (p0.length ≤ 9223372036854775807) >>= fun _ =>
  need (p1.length < 4294967281) >>= fun _ =>
  need (p1.all (fun b => decide (b.toNat < 128)) = true) >>= fun _ =>
  some (Lib.trimS p0 p1)
set_option maxRecDepth 100000 in
set_option maxHeartbeats 4000000 in
theorem strings_Trim_ok : ∀ (p0 : (List UInt8)) (p1 : (List UInt8)) (o : (List UInt8)), strings_Trim p0 p1 = some o → PCall Tryz.prog 66 [sV p0, sV p1] (t_strings_Trim o) := by
  intro p0 p1 o h
  unfold strings_Trim at h
  obtain ⟨h1, h⟩ := need_some h
  obtain ⟨h2, h⟩ := need_some h
  obtain ⟨h3, h⟩ := need_some h
  cases h
  exact trim_ok _ _ h1 h2 h3
noncomputable def utf_Count_L1 (x1 : (List UInt8)) (l4 : (List (Int × Int))) (h0_0 : Int) : Option (Int) :=
  match l4 with
  | [] =>
    some h0_0
  | x2 :: r3 =>
    utf_Count_L1 x1 r3 (wr (h0_0 + 1))
  partial_fixpoint
set_option maxRecDepth 100000 in
set_option maxHeartbeats 4000000 in
theorem utf_Count_L1_grp : ∀ (x1 : (List UInt8)), (∀ (l4 : (List (Int × Int))) (h0_0 : Int) (o6 : Int), utf_Count_L1 x1 l4 h0_0 = some o6 → RL 1 0 Tryz.prog 11 (rgP utf_Count_L1_c) (rgA utf_Count_L1_c) (rgB utf_Count_L1_c) (utf_Count_L1_st x1 h0_0).env (JP1 (0, 0) 11 o6 .normal (utf_Count_L1_x0 x1)) (l4.map e_utf_all_1) (utf_Count_L1_st x1 h0_0).s) := by
  intro x1
  refine utf_Count_L1.partial_correctness x1 _ ?_
  intro utf_Count_L1' ih_utf_Count_L1 l4 h0_0 o6 h
  cases l4 with
  | nil =>
    refine rl_nil ?_
    exact JP1.a h (Le.tow 1 0 rfl (.cons rfl (.refl _) (.cons rfl (.refl _) (.nil))) (.refl _) rfl)
  | cons x2 r3 =>
    refine rl_cons (bwp_sound mixed tbOk (lv := utf_Count_lv) _ _ _ ?_)
    refine And.intro rfl (bwp_sound mixed tbOk (lv := utf_Count_lv) _ _ _ ?_)
    exact Exists.intro (utf_Count_L1_st x1 (wr (h0_0 + 1))).s (And.intro (Le.tow 1 0 rfl (.nil) (.refl _) rfl) (And.intro rfl (And.intro rfl ((ih_utf_Count_L1 r3 (wr (h0_0 + 1)) _ h)))))
theorem utf_Count_L1_ok : ∀ (x1 : (List UInt8)) (l4 : (List (Int × Int))) (h0_0 : Int) (o6 : Int), utf_Count_L1 x1 l4 h0_0 = some o6 → RL 1 0 Tryz.prog 11 (rgP utf_Count_L1_c) (rgA utf_Count_L1_c) (rgB utf_Count_L1_c) (utf_Count_L1_st x1 h0_0).env (JP1 (0, 0) 11 o6 .normal (utf_Count_L1_x0 x1)) (l4.map e_utf_all_1) (utf_Count_L1_st x1 h0_0).s := fun x1 l4 h0_0 o6 h => (utf_Count_L1_grp x1) l4 h0_0 o6 h
noncomputable def utf_all (p0 : (List UInt8)) : Option ((List UInt8)) :=
  some p0
set_option maxRecDepth 100000 in
set_option maxHeartbeats 4000000 in
theorem utf_all_ok : ∀ (p0 : (List UInt8)) (o : (List UInt8)), utf_all p0 = some o → PCall Tryz.prog 59 [sV p0] (t_utf_all o) := by
  intro p0 o h
  unfold utf_all at h
  refine PCall.ofM mixed tbOk utf_all_lv Tryz.func59 rfl (by kernel_rfl) (Nat.le_of_ble_eq_true rfl) ?_
  refine st_ret (t := t_utf_all) h ?_
  exact .refl _
noncomputable def utf_all_1_L1 (p0 : (List UInt8)) (v3 : Int) : Option ((List (Int × Int)) × (Unit)) :=
  if (decide (v3 < (p0.length : Int))) then
    utf_Next p0 v3 >>= fun x3 =>
    ( utf_all_1_L1 p0 (wr (v3 + x3.2))) >>= fun q => some ((x3.1, x3.2) :: q.1, q.2)
  else
    some ([], ())
  partial_fixpoint
set_option maxRecDepth 100000 in
set_option maxHeartbeats 4000000 in
theorem utf_all_1_L1_grp : ∀ (p0 : (List UInt8)), (∀ (v3 : Int) (o2 : (List (Int × Int)) × (Unit)), utf_all_1_L1 p0 v3 = some o2 → ∀ (gxs gp gpost gq1 : List (List V)), gxs = gp ++ (o2.1.map e_utf_all_1 ++ gpost) → gxs = gq1 ++ gpost → TL (0, 1) Tryz.prog 24 utf_all_1_L1_c (Qs (0, 1) 24 gxs (JP1 (0, 1) 24 o2.2 (.exit 0) (utf_all_1_L1_x0 p0 gxs gq1))) (utf_all_1_L1_st p0 v3 gxs gp)) := by
  intro p0
  refine utf_all_1_L1.partial_correctness p0 _ ?_
  intro utf_all_1_L1' ih_utf_all_1_L1 v3 o2 h
  intro gxs gp gpost gq1 hx hq
  refine TL.round (bwp_sound mixed tbOk (lv := utf_all_1_lv) _ _ _ ?_)
  refine vrfl ?_
  refine st_test h (fun hb h => ?_) (fun hb h => ?_)
  · refine st_call [sV p0, iV v3] t_utf_Next h (fun x3 hy => (utf_Next_ok p0 v3 x3 hy)) (fun x3 hy h => ?_)
    refine st_yld (c := e_utf_all_1) h hx (.refl _) (by exact rfl) (by exact rfl) (fun _ h hx => ?_) ?_
    · refine bF ?_
      refine TL.le (τ := utf_all_1_L1_st p0 (wr (v3 + x3.2)) gxs (gp ++ [e_utf_all_1 (x3.1, x3.2)])) ?_ ((ih_utf_all_1_L1 (wr (v3 + x3.2)) _ h) _ _ _ _ hx hq)
      exact Le.tow 0 1 rfl (.cons rfl (.refl _) (.cons rfl (.refl _) (.cons rfl (.refl _) (.nil)))) (.refl _) rfl
    · refine bT ?_
      exact .inr ⟨rfl, _, (Le.env0 _).trans (Le.tow 0 1 rfl .nil (.refl _) rfl), rfl, rfl, rfl⟩
  · exact .inl (JP1.a (sndI h) (Le.tow 0 1 rfl (.nil) (.refl _) (liveQ h hx hq rfl)))
theorem utf_all_1_L1_ok : ∀ (p0 : (List UInt8)) (v3 : Int) (o2 : (List (Int × Int)) × (Unit)), utf_all_1_L1 p0 v3 = some o2 → ∀ (gxs gp gpost gq1 : List (List V)), gxs = gp ++ (o2.1.map e_utf_all_1 ++ gpost) → gxs = gq1 ++ gpost → TL (0, 1) Tryz.prog 24 utf_all_1_L1_c (Qs (0, 1) 24 gxs (JP1 (0, 1) 24 o2.2 (.exit 0) (utf_all_1_L1_x0 p0 gxs gq1))) (utf_all_1_L1_st p0 v3 gxs gp) := fun p0 v3 o2 h => (utf_all_1_L1_grp p0) v3 o2 h
noncomputable def utf_all_1 (p0 : (List UInt8)) : Option ((List (Int × Int)) × Unit) :=
  ( utf_all_1_L1 p0 0) >>= fun o2 => (
    some ([], ())) >>= fun q => some (o2.1 ++ q.1, q.2)
set_option maxRecDepth 100000 in
set_option maxHeartbeats 4000000 in
theorem utf_all_1_ok : ∀ (p0 : (List UInt8)) (o : (List (Int × Int)) × Unit), utf_all_1 p0 = some o → ∀ gxs : List (List V), gxs = o.1.map e_utf_all_1 → IterOK Tryz.prog 75 [.ep [sV p0]] gxs := by
  intro p0 o h
  unfold utf_all_1 at h
  intro gxs hg
  have hx : gxs = [] ++ (o.1.map e_utf_all_1 ++ []) := by simp [hg]
  refine IterOK.ofB mixed tbOk utf_all_1_lv Tryz.func75 rfl (by kernel_rfl) (Nat.le_of_ble_eq_true rfl) rfl ?_
  refine st_bindI h hx (fun o2 lgq1 gq1 ho hk hxa hjgq1 => ?_)
  refine Exists.intro (Qs _ _ gxs (JP1 _ _ o2.2 (.exit 0) (utf_all_1_L1_x0 p0 gxs gq1))) (And.intro (T_le (τ := utf_all_1_L1_st p0 0 gxs ([] : List (List V))) ?_ (TL.loop ((utf_all_1_L1_ok p0 0 o2 ho) _ _ _ _ hxa hjgq1))) (joinS (join1 ?_) ?_))
  · exact Le.tow 0 1 rfl (.cons rfl (.refl _) (.cons rfl (.refl _) (.cons rfl (.refl _) (.nil)))) (.refl _) rfl
  · have h := hk
    have hx := hjgq1
    exact st_iend h hx (.inl rfl) rfl
  · exact fun s1 h1 h2 hs => st_istop (.inr rfl) hs
noncomputable def utf_Count (p0 : (List UInt8)) : Option (Int) :=
  utf_all p0 >>= fun x1 =>
  utf_all_1 x1 >>= fun y5 =>
  (utf_Count_L1 x1 y5.1 0) >>= fun o6 =>
  some o6
set_option maxRecDepth 100000 in
set_option maxHeartbeats 4000000 in
theorem utf_Count_ok : ∀ (p0 : (List UInt8)) (o : Int), utf_Count p0 = some o → PCall Tryz.prog 39 [sV p0] (t_utf_Count o) := by
  intro p0 o h
  unfold utf_Count at h
  refine PCall.ofB mixed tbOk utf_Count_lv Tryz.func39 rfl (by kernel_rfl) (Nat.le_of_ble_eq_true rfl) ?_
  refine st_call [sV p0] t_utf_all h (fun x1 hy => (utf_all_ok p0 x1 hy)) (fun x1 hy h => ?_)
  refine st_bind h (fun y5 hy5 h => ?_)
  refine st_bind h (fun o6 ho hk => ?_)
  refine Exists.intro (JP1 _ _ o6 .normal (utf_Count_L1_x0 x1)) (And.intro (T_le (τ := utf_Count_L1_st x1 0) ?_ (T_range (g := 75) (cap := [.ep [sV x1]]) rfl ((utf_all_1_ok x1 y5 hy5) _ rfl) (mapSize fun _ => rfl) rfl (Nat.le_of_ble_eq_true rfl) (Nat.le_of_ble_eq_true rfl) (utf_Count_L1_ok x1 y5.1 0 o6 ho))) (join1 ?_))
  · exact Le.tow 1 0 rfl (.cons rfl (.refl _) (.cons rfl (.refl _) (.nil))) (.refl _) rfl
  have h := hk
  refine st_ret (t := t_utf_Count) h ?_
  exact .refl _
noncomputable def built_text (p0 : (List UInt8)) (p1 : (List api_Val)) : Option (api_Val × Int) :=
  idx p1 0 >>= fun x1 =>
  ( if (p0 == [117, 112, 112, 101, 114]) then
      built_turned x1.S 97 122 >>= fun x5 =>
      some (.inl x5)
    else
      if (p0 == [108, 111, 119, 101, 114]) then
        built_turned x1.S 65 90 >>= fun x6 =>
        some (.inl x6)
      else
        if (p0 == [116, 114, 105, 109]) then
          strings_Trim x1.S [32, 9, 10, 13] >>= fun x7 =>
          some (.inl x7)
        else
          if (p0 == [102, 105, 114, 115, 116]) then
            idx p1 1 >>= fun x8 =>
            built_cut x1.S (if 0 > x8.N then 0 else x8.N) >>= fun x9 =>
            cutL x1.S 0 x9 >>= fun x10 =>
            some (.inl x10)
          else
            if (p0 == [108, 97, 115, 116]) then
              utf_Count x1.S >>= fun x11 =>
              idx p1 1 >>= fun x12 =>
              utf_Count x1.S >>= fun x13 =>
              built_cut x1.S (wr (x11 - (if x13 < (if 0 > x12.N then 0 else x12.N) then x13 else (if 0 > x12.N then 0 else x12.N)))) >>= fun x14 =>
              cutL x1.S x14 (x1.S.length : Int) >>= fun x15 =>
              some (.inl x15)
            else
              if (p0 == [100, 101, 102, 97, 117, 108, 116]) then
                if (x1.S == []) then
                  idx p1 1 >>= fun x16 =>
                  some (.inl x16.S)
                else
                  some (.inl x1.S)
              else
                if (p0 == [99, 97, 116]) then
                  idx p1 1 >>= fun x17 =>
                  built_long_built_text_1 (wr ((x1.S.length : Int) + (x17.S.length : Int))) x1.S p1 >>= fun x18 =>
                  some (.inr (x18.2, x18.1.K, x18.1.S, x18.1.N, x18.1.B, x18.1.L))
                else
                  if (p0 == [114, 101, 112, 108, 97, 99, 101]) then
                    ( idx p1 1 >>= fun x20 =>
                      idx p1 2 >>= fun x21 =>
                      some (x20.S, x21.S) : Option (((List UInt8) × (List UInt8)))) >>= fun o19 =>
                    if (o19.1 == []) then
                      some (.inl x1.S)
                    else
                      strings_Count x1.S o19.1 >>= fun x22 =>
                      built_long_built_text_2 (wr ((x1.S.length : Int) + (wr (x22 * (wr ((o19.2.length : Int) - (o19.1.length : Int))))))) x1.S o19.1 o19.2 >>= fun x23 =>
                      some (.inr (x23.2, x23.1.K, x23.1.S, x23.1.N, x23.1.B, x23.1.L))
                  else
                    if (p0 == [103, 101, 116]) then
                      idx p1 0 >>= fun x24 =>
                      idx p1 1 >>= fun x25 =>
                      schema_Find x24 x25.S >>= fun x26 =>
                      some (.inl x26.1)
                    else
                      some (.inl x1.S) : Option ((List UInt8) ⊕ (Int × Int × (List UInt8) × Int × Bool × (List api_Val)))) >>= fun o2 =>
  match o2 with
  | .inl y3 =>
    built_long_built_text_3 (y3.length : Int) y3 >>= fun x27 =>
    some (x27.1, x27.2)
  | .inr y4 =>
    some ((api_Val.mk y4.2.1 y4.2.2.1 y4.2.2.2.1 y4.2.2.2.2.1 y4.2.2.2.2.2), y4.1)
set_option maxRecDepth 100000 in
set_option maxHeartbeats 4000000 in
theorem built_text_ok : ∀ (p0 : (List UInt8)) (p1 : (List api_Val)) (o : api_Val × Int), built_text p0 p1 = some o → PCall Tryz.prog 48 [sV p0, .sl false (p1.map c_api_Val)] (t_built_text o) := by
  intro p0 p1 o h
  unfold built_text at h
  refine PCall.ofB mixed tbOk built_text_lv Tryz.func48 rfl (by kernel_rfl) (Nat.le_of_ble_eq_true rfl) ?_
  refine st_idx (l := p1) (c := c_api_Val) (c' := l_api_Val) h c_api_Val_eq (fun _ => rfl) (by decide) (fun x1 hi h => ?_)
  refine st_bind h (fun o2 ho hk => ?_)
  refine Exists.intro (JP2 _ _ o2 .normal (built_text_J0_0 p1 x1) .ret (built_text_J0_1 p1 x1)) (And.intro ?_ (join2 (fun y3 hy => ?_) (fun y4 hy => ?_)))
  · have h := ho
    refine st_test h (fun hb h => ?_) (fun hb h => ?_)
    · refine st_call [sV x1.S, nV .u8 97, nV .u8 122] t_built_turned h (fun x5 hy => (built_turned_ok x1.S 97 122 x5 hy)) (fun x5 hy h => ?_)
      refine JP2.a h ?_
      exact Le.tow 3 0 rfl (.cons rfl (.refl _) (.cons rfl (.refl _) (.nil))) (.refl _) rfl
    · refine st_test h (fun hb h => ?_) (fun hb h => ?_)
      · refine st_call [sV x1.S, nV .u8 65, nV .u8 90] t_built_turned h (fun x6 hy => (built_turned_ok x1.S 65 90 x6 hy)) (fun x6 hy h => ?_)
        refine JP2.a h ?_
        exact Le.tow 3 0 rfl (.cons rfl (.refl _) (.cons rfl (.refl _) (.nil))) (.refl _) rfl
      · refine st_test h (fun hb h => ?_) (fun hb h => ?_)
        · refine st_call [sV x1.S, sV [32, 9, 10, 13]] t_strings_Trim h (fun x7 hy => (strings_Trim_ok x1.S [32, 9, 10, 13] x7 hy)) (fun x7 hy h => ?_)
          refine JP2.a h ?_
          exact Le.tow 3 0 rfl (.cons rfl (.refl _) (.cons rfl (.refl _) (.nil))) (.refl _) rfl
        · refine st_test h (fun hb h => ?_) (fun hb h => ?_)
          · refine And.intro (by decide +kernel) (And.intro rfl ?_)
            refine st_idx (l := p1) (c := c_api_Val) (c' := l_api_Val) h c_api_Val_eq (fun _ => rfl) (by decide) (fun x8 hi h => ?_)
            refine st_calld [sV x1.S, iV (if 0 > x8.N then 0 else x8.N)] t_built_cut h (fun x9 hy => (built_cut_ok x1.S (if 0 > x8.N then 0 else x8.N) x9 hy)) (fun x9 hy h => ?_)
            refine st_cuts none (some x9) h (fun x10 hi h => ?_)
            refine JP2.a h ?_
            exact Le.tow 3 0 rfl (.cons rfl (.refl _) (.cons rfl (.refl _) (.nil))) (.refl _) rfl
          · refine st_test h (fun hb h => ?_) (fun hb h => ?_)
            · refine And.intro (by decide +kernel) (And.intro rfl ?_)
              refine st_calld [sV x1.S] t_utf_Count h (fun x11 hy => (utf_Count_ok x1.S x11 hy)) (fun x11 hy h => ?_)
              refine st_idx (l := p1) (c := c_api_Val) (c' := l_api_Val) h c_api_Val_eq (fun _ => rfl) (by decide) (fun x12 hi h => ?_)
              refine st_calld [sV x1.S] t_utf_Count h (fun x13 hy => (utf_Count_ok x1.S x13 hy)) (fun x13 hy h => ?_)
              refine st_calld [sV x1.S, iV (wr (x11 - (if x13 < (if 0 > x12.N then 0 else x12.N) then x13 else (if 0 > x12.N then 0 else x12.N))))] t_built_cut h (fun x14 hy => (built_cut_ok x1.S (wr (x11 - (if x13 < (if 0 > x12.N then 0 else x12.N) then x13 else (if 0 > x12.N then 0 else x12.N)))) x14 hy)) (fun x14 hy h => ?_)
              refine st_cuts (some x14) none h (fun x15 hi h => ?_)
              refine JP2.a h ?_
              exact Le.tow 3 0 rfl (.cons rfl (.refl _) (.cons rfl (.refl _) (.nil))) (.refl _) rfl
            · refine st_test h (fun hb h => ?_) (fun hb h => ?_)
              · refine st_test h (fun hb h => ?_) (fun hb h => ?_)
                · refine st_idx (l := p1) (c := c_api_Val) (c' := l_api_Val) h c_api_Val_eq (fun _ => rfl) (by decide) (fun x16 hi h => ?_)
                  refine JP2.a h ?_
                  exact Le.tow 3 0 rfl (.cons rfl (.refl _) (.cons rfl (.refl _) (.nil))) (.refl _) rfl
                · refine JP2.a h ?_
                  exact Le.tow 3 0 rfl (.cons rfl (.refl _) (.cons rfl (.refl _) (.nil))) (.refl _) rfl
              · refine st_test h (fun hb h => ?_) (fun hb h => ?_)
                · refine And.intro (by decide +kernel) (And.intro rfl ?_)
                  refine vrfl ?_
                  refine st_idx (l := p1) (c := c_api_Val) (c' := l_api_Val) h c_api_Val_eq (fun _ => rfl) (by decide) (fun x17 hi h => ?_)
                  refine vrfl ?_
                  refine st_callq (fun x18 => (t_built_long_built_text_1 x18).ren [2, 0] []) h (fun x18 hy => (built_long_built_text_1_ok (wr ((x1.S.length : Int) + (x17.S.length : Int))) x1.S p1 x18 hy).fd rfl rfl [2, 0] rfl rfl) (fun x18 hy h => ?_)
                  refine JP2.b h ?_
                  exact Le.tow 3 0 rfl (.cons rfl (.refl _) (.cons rfl (.refl _) (.nil))) (.refl _) rfl
                · refine st_test h (fun hb h => ?_) (fun hb h => ?_)
                  · refine st_bind h (fun o19 ho hk => ?_)
                    refine Exists.intro (JP1 _ _ o19 .normal (built_text_J1_0 p1 x1)) (And.intro ?_ (join1 ?_))
                    · have h := ho
                      refine And.intro (by decide +kernel) (And.intro (by decide +kernel) (And.intro (by decide +kernel) (And.intro rfl ?_)))
                      refine st_idx (l := p1) (c := c_api_Val) (c' := l_api_Val) h c_api_Val_eq (fun _ => rfl) (by decide) (fun x20 hi h => ?_)
                      refine st_idx (l := p1) (c := c_api_Val) (c' := l_api_Val) h c_api_Val_eq (fun _ => rfl) (by decide) (fun x21 hi h => ?_)
                      refine And.intro (Nat.le_of_ble_eq_true rfl) (And.intro ?_ ?_)
                      · refine JP1.a h ?_
                        exact Le.tow 5 0 rfl (.cons rfl (.refl _) (.cons rfl (.refl _) (.cons rfl (.refl _) (.cons rfl (.refl _) (.nil))))) (.refl _) rfl
                      · refine JP1.a h ?_
                        exact Le.trans (τ := ⟨[(4, .ptr 1 0), (6, .ptr 2 0), (7, .ptr 3 0), (8, .ptr 4 0)], ⟨[[.p (.sl false (p1.map c_api_Val))], [.p (iV 0), .p (sV []), .p (iV 0), .p (bV false), .p (.sl true [])], [.p (sV x1.S)], [.p (sV x20.S)], [.p (sV x21.S)]], []⟩⟩) (Le.perm [0, 1, 2, 4, 3] rfl rfl rfl) (Le.tow 5 0 rfl (.cons rfl (.refl _) (.cons rfl (.refl _) (.cons rfl (.refl _) (.cons rfl (.refl _) (.nil))))) (.refl _) rfl)
                    · have h := hk
                      refine st_test h (fun hb h => ?_) (fun hb h => ?_)
                      · refine JP2.a h ?_
                        exact Le.trans (τ := ⟨[(4, .ptr 1 0), (6, .ptr 2 0)], ⟨[[.p (.sl false (p1.map c_api_Val))], [.p (iV 0), .p (sV []), .p (iV 0), .p (bV false), .p (.sl true [])], [.p (sV x1.S)], [.p (sV o19.1)], [.p (sV o19.2)]], []⟩⟩) (Le.weak (.cons rfl (.refl _) (.cons rfl (.refl _) (.nil))) (.refl _) rfl) (Le.tow 3 0 rfl (.cons rfl (.refl _) (.cons rfl (.refl _) (.nil))) (.refl _) rfl)
                      · refine st_call [sV x1.S, sV o19.1] t_strings_Count h (fun x22 hy => (strings_Count_ok x1.S o19.1 x22 hy)) (fun x22 hy h => ?_)
                        refine vrfl ?_
                        refine vrfl ?_
                        refine vrfl ?_
                        refine st_callc _ _ h (fun x23 hy => ((built_long_built_text_2_ok (wr ((x1.S.length : Int) + (wr (x22 * (wr ((o19.2.length : Int) - (o19.1.length : Int))))))) x1.S o19.1 o19.2 x23 hy).fr [2, 3, 4] [] rfl rfl rfl)) (fun x23 hy h => ?_)
                        refine JP2.b h ?_
                        exact Le.tow 3 0 rfl (.cons rfl (.refl _) (.cons rfl (.refl _) (.nil))) (.refl _) rfl
                  · refine st_test h (fun hb h => ?_) (fun hb h => ?_)
                    · refine And.intro (by decide +kernel) (And.intro rfl ?_)
                      refine st_idx (l := p1) (c := c_api_Val) (c' := l_api_Val) h c_api_Val_eq (fun _ => rfl) (by decide) (fun x24 hi h => ?_)
                      refine st_idx (l := p1) (c := c_api_Val) (c' := l_api_Val) h c_api_Val_eq (fun _ => rfl) (by decide) (fun x25 hi h => ?_)
                      refine st_calld [.agg [iV x24.K, sV x24.S, iV x24.N, bV x24.B, .sl false (x24.L.map c_api_Val)], sV x25.S] t_schema_Find h (fun x26 hy => (schema_Find_ok x24 x25.S x26 hy)) (fun x26 hy h => ?_)
                      refine JP2.a h ?_
                      exact Le.tow 3 0 rfl (.cons rfl (.refl _) (.cons rfl (.refl _) (.nil))) (.refl _) rfl
                    · refine JP2.a h ?_
                      exact Le.tow 3 0 rfl (.cons rfl (.refl _) (.cons rfl (.refl _) (.nil))) (.refl _) rfl
  · have h := (by rw [hy] at hk; exact hk)
    refine vrfl ?_
    refine st_callc _ _ h (fun x27 hy => ((built_long_built_text_3_ok (y3.length : Int) y3 x27 hy).fr [2] [] rfl rfl rfl)) (fun x27 hy h => ?_)
    refine st_ret (t := t_built_text) h ?_
    exact .refl _
  · have h := (by rw [hy] at hk; exact hk)
    refine st_ret (t := t_built_text) h ?_
    exact .refl _
noncomputable def octet_Text (p0 : Int) : Option ((List UInt8)) :=
  need (-9223372036854775808 ≤ p0) >>= fun _ =>
  need (p0 ≤ 9223372036854775807) >>= fun _ =>
  some (textL p0)
set_option maxRecDepth 100000 in
set_option maxHeartbeats 4000000 in
theorem octet_Text_ok : ∀ (p0 : Int) (o : (List UInt8)), octet_Text p0 = some o → PCall Tryz.prog 44 [iV p0] (t_octet_Text o) := by
  intro p0 o h
  unfold octet_Text at h
  obtain ⟨h1, h⟩ := need_some h
  obtain ⟨h2, h⟩ := need_some h
  cases h
  exact text_ok _ h1 h2
noncomputable def schema_Number (p0 : Int) : Option (api_Val) :=
  some (api_Val.mk 2 [] p0 false [])
set_option maxRecDepth 100000 in
set_option maxHeartbeats 4000000 in
theorem schema_Number_ok : ∀ (p0 : Int) (o : api_Val), schema_Number p0 = some o → PCall Tryz.prog 38 [iV p0] (t_schema_Number o) := by
  intro p0 o h
  unfold schema_Number at h
  refine PCall.ofB mixed tbOk schema_Number_lv Tryz.func38 rfl (by kernel_rfl) (Nat.le_of_ble_eq_true rfl) ?_
  refine st_ret (t := t_schema_Number) h ?_
  exact .p (.agg' (.cons (.refl _) (.cons (.refl _) (.cons (.refl _) (.cons (.refl _) (.cons (.not) (.nil)))))))
mutual
noncomputable def schema_Same (p0 : api_Val) (p1 : api_Val) : Option (Bool) :=
  ( if (p0.K == p1.K) then
      if (p0.S == p1.S) then
        if (p0.N == p1.N) then
          if (p0.B == p1.B) then
            slices_EqualFunc_api_Val_api_Val_api_Val_api_Val_schema_Same p0.L p1.L >>= fun x2 =>
            some x2
          else
            some false
        else
          some false
      else
        some false
    else
      some false : Option (Bool)) >>= fun o1 =>
  some o1
  partial_fixpoint
noncomputable def slices_EqualFunc_api_Val_api_Val_api_Val_api_Val_schema_Same (p0 : (List api_Val)) (p1 : (List api_Val)) : Option (Bool) :=
  if ((p0.length : Int) != (p1.length : Int)) then
    some false
  else
    (slices_EqualFunc_api_Val_api_Val_api_Val_api_Val_schema_Same_L1 p0 p1 0) >>= fun o1 =>
    match o1 with
    | .inl y2 =>
      some true
    | .inr y3 =>
      some false
  partial_fixpoint
noncomputable def slices_EqualFunc_api_Val_api_Val_api_Val_api_Val_schema_Same_L1 (p0 : (List api_Val)) (p1 : (List api_Val)) (v17 : Int) : Option (Unit ⊕ Unit) :=
  if (decide (v17 < (p0.length : Int))) then
    idx p0 v17 >>= fun x4 =>
    idx p1 v17 >>= fun x5 =>
    schema_Same x4 x5 >>= fun x6 =>
    if (!x6) then
      some (.inr ())
    else
      slices_EqualFunc_api_Val_api_Val_api_Val_api_Val_schema_Same_L1 p0 p1 (wr (v17 + 1))
  else
    some (.inl ())
  partial_fixpoint
end
set_option maxRecDepth 100000 in
set_option maxHeartbeats 4000000 in
theorem schema_Same_grp : (∀ (p0 : api_Val) (p1 : api_Val) (o : Bool), schema_Same p0 p1 = some o → PCall Tryz.prog 47 [.agg [iV p0.K, sV p0.S, iV p0.N, bV p0.B, .sl false (p0.L.map c_api_Val)], .agg [iV p1.K, sV p1.S, iV p1.N, bV p1.B, .sl false (p1.L.map c_api_Val)]] (t_schema_Same o)) ∧ (∀ (p0 : (List api_Val)) (p1 : (List api_Val)) (o : Bool), slices_EqualFunc_api_Val_api_Val_api_Val_api_Val_schema_Same p0 p1 = some o → CallOK Tryz.prog 64 [.p (.sl false (p0.map c_api_Val)), .p (.sl false (p1.map c_api_Val)), .fn (.func 47) [] []] ⟨[], []⟩ (t_slices_EqualFunc_api_Val_api_Val_api_Val_api_Val_schema_Same o) ⟨[], []⟩) ∧ (∀ (p0 : (List api_Val)) (p1 : (List api_Val)) (v17 : Int) (o1 : Unit ⊕ Unit), slices_EqualFunc_api_Val_api_Val_api_Val_api_Val_schema_Same_L1 p0 p1 v17 = some o1 → TL (0, 0) Tryz.prog 32 slices_EqualFunc_api_Val_api_Val_api_Val_api_Val_schema_Same_L1_c (JP2 (0, 0) 32 o1 (.exit 0) (slices_EqualFunc_api_Val_api_Val_api_Val_api_Val_schema_Same_L1_x0 p0 p1) .ret (slices_EqualFunc_api_Val_api_Val_api_Val_api_Val_schema_Same_L1_x1 p0 p1)) (slices_EqualFunc_api_Val_api_Val_api_Val_api_Val_schema_Same_L1_st p0 p1 v17)) := by
  refine schema_Same.mutual_partial_correctness _ _ _ ?_ ?_ ?_
  · intro slices_EqualFunc_api_Val_api_Val_api_Val_api_Val_schema_Same' ih_slices_EqualFunc_api_Val_api_Val_api_Val_api_Val_schema_Same p0 p1 o h
    refine PCall.ofB mixed tbOk schema_Same_lv Tryz.func47 rfl (by kernel_rfl) (Nat.le_of_ble_eq_true rfl) ?_
    refine st_bind h (fun o1 ho hk => ?_)
    refine Exists.intro (JP1 _ _ o1 .normal (schema_Same_J0_0 p0 p1)) (And.intro ?_ (join1 ?_))
    · have h := ho
      refine st_test h (fun hb h => ?_) (fun hb h => ?_)
      · refine st_test h (fun hb h => ?_) (fun hb h => ?_)
        · refine st_test h (fun hb h => ?_) (fun hb h => ?_)
          · refine st_test h (fun hb h => ?_) (fun hb h => ?_)
            · refine st_callc _ _ h (fun x2 hy => ((ih_slices_EqualFunc_api_Val_api_Val_api_Val_api_Val_schema_Same p0.L p1.L x2 hy).fr [] [] rfl rfl rfl)) (fun x2 hy h => ?_)
              refine JP1.a h ?_
              exact Le.tow 2 0 rfl (.cons rfl (.refl _) (.nil)) (.refl _) rfl
            · refine JP1.a h ?_
              exact Le.tow 2 0 rfl (.cons rfl (.refl _) (.nil)) (.refl _) rfl
          · refine bF ?_
            refine JP1.a h ?_
            exact Le.tow 2 0 rfl (.cons rfl (.refl _) (.nil)) (.refl _) rfl
        · refine bF ?_
          refine bF ?_
          refine JP1.a h ?_
          exact Le.tow 2 0 rfl (.cons rfl (.refl _) (.nil)) (.refl _) rfl
      · refine bF ?_
        refine bF ?_
        refine bF ?_
        refine JP1.a h ?_
        exact Le.tow 2 0 rfl (.cons rfl (.refl _) (.nil)) (.refl _) rfl
    · have h := hk
      refine st_ret (t := t_schema_Same) h ?_
      exact .refl _
  · intro slices_EqualFunc_api_Val_api_Val_api_Val_api_Val_schema_Same_L1' ih_slices_EqualFunc_api_Val_api_Val_api_Val_api_Val_schema_Same_L1 p0 p1 o h
    refine CallOK.ofB mixed tbOk slices_EqualFunc_api_Val_api_Val_api_Val_api_Val_schema_Same_lv Tryz.func64 rfl (by kernel_rfl) (Nat.le_of_ble_eq_true rfl) rfl rfl rfl ?_
    refine view (lenMap _ _) rfl ?_
    refine view (lenMap _ _) rfl ?_
    refine st_test h (fun hb h => ?_) (fun hb h => ?_)
    · refine Exists.intro _ (And.intro (Le.refl _ _ _) ?_)
      exact st_retc (t := t_slices_EqualFunc_api_Val_api_Val_api_Val_api_Val_schema_Same) (ss := fun o => ⟨[], []⟩) h ⟨[], rfl, .refl _, .refl _, rfl⟩
    · refine view (lenMap _ _) rfl ?_
      refine st_bind h (fun o1 ho hk => ?_)
      refine Exists.intro (JP2 _ _ o1 (.exit 0) (slices_EqualFunc_api_Val_api_Val_api_Val_api_Val_schema_Same_L1_x0 p0 p1) .ret (slices_EqualFunc_api_Val_api_Val_api_Val_api_Val_schema_Same_L1_x1 p0 p1)) (And.intro (T_le (τ := slices_EqualFunc_api_Val_api_Val_api_Val_api_Val_schema_Same_L1_st p0 p1 0) ?_ (TL.loop (ih_slices_EqualFunc_api_Val_api_Val_api_Val_api_Val_schema_Same_L1 p0 p1 0 o1 ho))) (join2 (fun y2 hy => ?_) (fun y3 hy => ?_)))
      · exact Le.tow 0 0 rfl (.cons rfl (.refl _) (.cons rfl (.refl _) (.cons rfl (.refl _) (.cons rfl (.refl _) (.cons rfl (.refl _) (.nil)))))) (.refl _) rfl
      · have h := (by rw [hy] at hk; exact hk)
        refine Exists.intro _ (And.intro (Le.refl _ _ _) ?_)
        exact st_retc (t := t_slices_EqualFunc_api_Val_api_Val_api_Val_api_Val_schema_Same) (ss := fun o => ⟨[], []⟩) h ⟨[], rfl, .refl _, .refl _, rfl⟩
      · have h := (by rw [hy] at hk; exact hk)
        refine Exists.intro _ (And.intro (Le.refl _ _ _) ?_)
        exact st_retc (t := t_slices_EqualFunc_api_Val_api_Val_api_Val_api_Val_schema_Same) (ss := fun o => ⟨[], []⟩) h ⟨[], rfl, .refl _, .refl _, rfl⟩
  · intro schema_Same' slices_EqualFunc_api_Val_api_Val_api_Val_api_Val_schema_Same_L1' ih_schema_Same ih_slices_EqualFunc_api_Val_api_Val_api_Val_api_Val_schema_Same_L1 p0 p1 v17 o1 h
    refine TL.round (bwp_sound mixed tbOk (lv := slices_EqualFunc_api_Val_api_Val_api_Val_api_Val_schema_Same_lv) _ _ _ ?_)
    refine st_test h (fun hb h => ?_) (fun hb h => ?_)
    · refine st_idx (l := p0) (c := c_api_Val) (c' := l_api_Val) h c_api_Val_eq (fun _ => rfl) (by decide) (fun x4 hi h => ?_)
      refine st_idx (l := p1) (c := c_api_Val) (c' := l_api_Val) h c_api_Val_eq (fun _ => rfl) (by decide) (fun x5 hi h => ?_)
      refine st_call [.agg [iV x4.K, sV x4.S, iV x4.N, bV x4.B, .sl false (x4.L.map c_api_Val)], .agg [iV x5.K, sV x5.S, iV x5.N, bV x5.B, .sl false (x5.L.map c_api_Val)]] t_schema_Same h (fun x6 hy => (ih_schema_Same x4 x5 x6 hy)) (fun x6 hy h => ?_)
      refine st_test h (fun hb h => ?_) (fun hb h => ?_)
      · exact JP2.b h (Le.tow 0 0 rfl (.cons rfl (.refl _) (.nil)) (.refl _) rfl)
      · refine TL.le (τ := slices_EqualFunc_api_Val_api_Val_api_Val_api_Val_schema_Same_L1_st p0 p1 (wr (v17 + 1))) ?_ ((ih_slices_EqualFunc_api_Val_api_Val_api_Val_api_Val_schema_Same_L1 p0 p1 (wr (v17 + 1)) _ h))
        exact Le.tow 0 0 rfl (.cons rfl (.refl _) (.cons rfl (.refl _) (.cons rfl (.refl _) (.cons rfl (.refl _) (.cons rfl (.refl _) (.nil)))))) (.refl _) rfl
    · exact JP2.a h (Le.tow 0 0 rfl (.nil) (.refl _) rfl)
theorem schema_Same_ok : ∀ (p0 : api_Val) (p1 : api_Val) (o : Bool), schema_Same p0 p1 = some o → PCall Tryz.prog 47 [.agg [iV p0.K, sV p0.S, iV p0.N, bV p0.B, .sl false (p0.L.map c_api_Val)], .agg [iV p1.K, sV p1.S, iV p1.N, bV p1.B, .sl false (p1.L.map c_api_Val)]] (t_schema_Same o) := fun p0 p1 o h => schema_Same_grp.1 p0 p1 o h
noncomputable def schema_Truth (p0 : Bool) : Option (api_Val) :=
  some (api_Val.mk 3 [] 0 p0 [])
set_option maxRecDepth 100000 in
set_option maxHeartbeats 4000000 in
theorem schema_Truth_ok : ∀ (p0 : Bool) (o : api_Val), schema_Truth p0 = some o → PCall Tryz.prog 43 [bV p0] (t_schema_Truth o) := by
  intro p0 o h
  unfold schema_Truth at h
  refine PCall.ofB mixed tbOk schema_Truth_lv Tryz.func43 rfl (by kernel_rfl) (Nat.le_of_ble_eq_true rfl) ?_
  refine st_ret (t := t_schema_Truth) h ?_
  exact .p (.agg' (.cons (.refl _) (.cons (.refl _) (.cons (.refl _) (.cons (.refl _) (.cons (.not) (.nil)))))))
end Go.Proofs.YteahaflhihioaaaGreatDoor
end
