/- The proof's texts, part 9 of 10: the walks by a logic in which data are by value, the plain laws, and at the end the law, for every input. -/
import Derived.Test.YteahaflhihioaaaGreatDoorMgBuiltCalls8

section
set_option linter.unusedVariables false
set_option linter.unusedSimpArgs false
namespace Go.Proofs.YteahaflhihioaaaGreatDoor
open Go.RowKit

noncomputable def schema_Truth (p0 : Bool) : Option (api_Val) :=
  some (api_Val.mk 3 [] 0 p0 [])
set_option maxRecDepth 100000 in
set_option maxHeartbeats 4000000 in
theorem schema_Truth_ok : ∀ (p0 : Bool) (o : api_Val), schema_Truth p0 = some o → PCall Tryz.prog 43 [bV p0] (t_schema_Truth o) := by
  intro p0 o h
  unfold schema_Truth at h
  refine PCall.ofB mixed tbOk schema_Truth_lv Tryz.func43 rfl (by kernel_rfl) (Nat.le_of_ble_eq_true rfl) ?_
  refine st_ret (t := t_schema_Truth) h ?_
  exact .p (.agg' (.cons (.refl _) (.cons (.refl _) (.cons (.refl _) (.cons (.refl _) (.cons (.not) (.nil)))))))
noncomputable def built_do (p0 : (List UInt8)) (p1 : (List api_Val)) : Option (api_Val × Int) :=
  if (p0 == [115, 105, 122, 101]) then
    idx p1 0 >>= fun x1 =>
    utf_Count x1.S >>= fun x2 =>
    schema_Number x2 >>= fun x3 =>
    some (x3, 0)
  else
    if (p0 == [106, 111, 105, 110]) then
      idx p1 0 >>= fun x4 =>
      idx p1 1 >>= fun x5 =>
      built_join x4.L x5.S >>= fun x6 =>
      some (x6.1, x6.2)
    else
      if (p0 == [107, 101, 121, 115]) then
        idx p1 0 >>= fun x7 =>
        (built_do_L1 x7 0 []) >>= fun o8 =>
        some ((api_Val.mk 7 [] 0 false o8), 0)
      else
        if (p0 == [104, 97, 115]) then
          idx p1 0 >>= fun x13 =>
          idx p1 1 >>= fun x14 =>
          schema_Find x13 x14.S >>= fun x15 =>
          schema_Truth x15.2 >>= fun x16 =>
          some (x16, 0)
        else
          if (p0 == [99, 111, 117, 110, 116]) then
            idx p1 0 >>= fun x17 =>
            schema_Number (x17.L.length : Int) >>= fun x18 =>
            some (x18, 0)
          else
            if (p0 == [119, 114, 105, 116, 101]) then
              idx p1 0 >>= fun x19 =>
              if (x19.K == 2) then
                idx p1 0 >>= fun x20 =>
                octet_Text x20.N >>= fun x21 =>
                schema_Text x21 >>= fun x22 =>
                some (x22, 0)
              else
                idx p1 0 >>= fun x23 =>
                if x23.B then
                  schema_Text [116, 114, 117, 101] >>= fun x24 =>
                  some (x24, 0)
                else
                  schema_Text [102, 97, 108, 115, 101] >>= fun x25 =>
                  some (x25, 0)
            else
              if (p0 == [97, 100, 100]) then
                idx p1 0 >>= fun x26 =>
                idx p1 1 >>= fun x27 =>
                built_add x26.N x27.N >>= fun x28 =>
                schema_Number x28 >>= fun x29 =>
                some (x29, 0)
              else
                if (p0 == [115, 117, 98]) then
                  idx p1 0 >>= fun x30 =>
                  idx p1 1 >>= fun x31 =>
                  built_sub x30.N x31.N >>= fun x32 =>
                  schema_Number x32 >>= fun x33 =>
                  some (x33, 0)
                else
                  if (p0 == [108, 101, 115, 115]) then
                    idx p1 0 >>= fun x34 =>
                    idx p1 1 >>= fun x35 =>
                    schema_Truth (decide (x34.N < x35.N)) >>= fun x36 =>
                    some (x36, 0)
                  else
                    if (p0 == [115, 97, 109, 101]) then
                      idx p1 0 >>= fun x37 =>
                      idx p1 1 >>= fun x38 =>
                      schema_Same x37 x38 >>= fun x39 =>
                      schema_Truth x39 >>= fun x40 =>
                      some (x40, 0)
                    else
                      if (p0 == [98, 111, 116, 104]) then
                        ( idx p1 0 >>= fun x42 =>
                          if x42.B then
                            idx p1 1 >>= fun x43 =>
                            schema_Truth x43.B >>= fun x44 =>
                            some (x44.K, x44.S, x44.N, x44.B, x44.L)
                          else
                            schema_Truth false >>= fun x45 =>
                            some (x45.K, x45.S, x45.N, x45.B, x45.L) : Option ((Int × (List UInt8) × Int × Bool × (List api_Val)))) >>= fun o41 =>
                        some ((api_Val.mk o41.1 o41.2.1 o41.2.2.1 o41.2.2.2.1 o41.2.2.2.2), 0)
                      else
                        if (p0 == [101, 105, 116, 104, 101, 114]) then
                          ( idx p1 0 >>= fun x47 =>
                            if x47.B then
                              schema_Truth true >>= fun x48 =>
                              some (x48.K, x48.S, x48.N, x48.B, x48.L)
                            else
                              idx p1 1 >>= fun x49 =>
                              schema_Truth x49.B >>= fun x50 =>
                              some (x50.K, x50.S, x50.N, x50.B, x50.L) : Option ((Int × (List UInt8) × Int × Bool × (List api_Val)))) >>= fun o46 =>
                          some ((api_Val.mk o46.1 o46.2.1 o46.2.2.1 o46.2.2.2.1 o46.2.2.2.2), 0)
                        else
                          if (p0 == [110, 111, 116]) then
                            idx p1 0 >>= fun x51 =>
                            schema_Truth (!x51.B) >>= fun x52 =>
                            some (x52, 0)
                          else
                            built_text p0 p1 >>= fun x53 =>
                            some (x53.1, x53.2)
set_option maxRecDepth 100000 in
set_option maxHeartbeats 4000000 in
theorem built_do_ok : ∀ (p0 : (List UInt8)) (p1 : (List api_Val)) (o : api_Val × Int), built_do p0 p1 = some o → PCall Tryz.prog 20 [sV p0, .sl false (p1.map c_api_Val)] (t_built_do o) := by
  intro p0 p1 o h
  unfold built_do at h
  refine PCall.ofB mixed tbOk built_do_lv Tryz.func20 rfl (by kernel_rfl) (Nat.le_of_ble_eq_true rfl) ?_
  refine st_test h (fun hb h => ?_) (fun hb h => ?_)
  · refine st_idx (l := p1) (c := c_api_Val) (c' := l_api_Val) h c_api_Val_eq (fun _ => rfl) (by decide) (fun x1 hi h => ?_)
    refine st_call [sV x1.S] t_utf_Count h (fun x2 hy => (utf_Count_ok x1.S x2 hy)) (fun x2 hy h => ?_)
    refine st_call [iV x2] t_schema_Number h (fun x3 hy => (schema_Number_ok x2 x3 hy)) (fun x3 hy h => ?_)
    refine st_ret (t := t_built_do) h ?_
    exact .refl _
  · refine st_test h (fun hb h => ?_) (fun hb h => ?_)
    · refine And.intro (by decide +kernel) (And.intro rfl ?_)
      refine st_idx (l := p1) (c := c_api_Val) (c' := l_api_Val) h c_api_Val_eq (fun _ => rfl) (by decide) (fun x4 hi h => ?_)
      refine st_idx (l := p1) (c := c_api_Val) (c' := l_api_Val) h c_api_Val_eq (fun _ => rfl) (by decide) (fun x5 hi h => ?_)
      refine st_calld [.sl false (x4.L.map c_api_Val), sV x5.S] t_built_join h (fun x6 hy => (built_join_ok x4.L x5.S x6 hy)) (fun x6 hy h => ?_)
      refine st_ret (t := t_built_do) h ?_
      exact .refl _
    · refine st_test h (fun hb h => ?_) (fun hb h => ?_)
      · refine st_idx (l := p1) (c := c_api_Val) (c' := l_api_Val) h c_api_Val_eq (fun _ => rfl) (by decide) (fun x7 hi h => ?_)
        refine view (lenMap _ _) rfl ?_
        refine st_bind h (fun o8 ho hk => ?_)
        refine Exists.intro (JP1 _ _ o8 (.exit 1) (built_do_L1_x0 x7)) (And.intro (T_le (τ := built_do_L1_st x7 0 []) ?_ (TL.loop (built_do_L1_ok x7 0 [] o8 ho))) (join1 ?_))
        · exact (Le.ownH 1 4 26 5 rfl rfl sizeNil).trans (Le.tow 2 1 rfl (.cons rfl (.refl _) (.cons rfl (.refl _) (.cons rfl (.refl _) (.cons rfl (.refl _) (.cons rfl (.refl _) (.nil)))))) (.refl _) rfl)
        have h := hk
        refine st_ret (t := t_built_do) h ?_
        exact .refl _
      · refine st_test h (fun hb h => ?_) (fun hb h => ?_)
        · refine And.intro (by decide +kernel) (And.intro rfl ?_)
          refine st_idx (l := p1) (c := c_api_Val) (c' := l_api_Val) h c_api_Val_eq (fun _ => rfl) (by decide) (fun x13 hi h => ?_)
          refine st_idx (l := p1) (c := c_api_Val) (c' := l_api_Val) h c_api_Val_eq (fun _ => rfl) (by decide) (fun x14 hi h => ?_)
          refine st_calld [.agg [iV x13.K, sV x13.S, iV x13.N, bV x13.B, .sl false (x13.L.map c_api_Val)], sV x14.S] t_schema_Find h (fun x15 hy => (schema_Find_ok x13 x14.S x15 hy)) (fun x15 hy h => ?_)
          refine st_call [bV x15.2] t_schema_Truth h (fun x16 hy => (schema_Truth_ok x15.2 x16 hy)) (fun x16 hy h => ?_)
          refine st_ret (t := t_built_do) h ?_
          exact .refl _
        · refine st_test h (fun hb h => ?_) (fun hb h => ?_)
          · refine st_idx (l := p1) (c := c_api_Val) (c' := l_api_Val) h c_api_Val_eq (fun _ => rfl) (by decide) (fun x17 hi h => ?_)
            refine view (lenMap _ _) rfl ?_
            refine st_call [iV (x17.L.length : Int)] t_schema_Number h (fun x18 hy => (schema_Number_ok (x17.L.length : Int) x18 hy)) (fun x18 hy h => ?_)
            refine st_ret (t := t_built_do) h ?_
            exact .refl _
          · refine st_test h (fun hb h => ?_) (fun hb h => ?_)
            · refine st_idx (l := p1) (c := c_api_Val) (c' := l_api_Val) h c_api_Val_eq (fun _ => rfl) (by decide) (fun x19 hi h => ?_)
              refine st_test h (fun hb h => ?_) (fun hb h => ?_)
              · refine st_idx (l := p1) (c := c_api_Val) (c' := l_api_Val) h c_api_Val_eq (fun _ => rfl) (by decide) (fun x20 hi h => ?_)
                refine st_call [iV x20.N] t_octet_Text h (fun x21 hy => (octet_Text_ok x20.N x21 hy)) (fun x21 hy h => ?_)
                refine st_call [sV x21] t_schema_Text h (fun x22 hy => (schema_Text_ok x21 x22 hy)) (fun x22 hy h => ?_)
                refine st_ret (t := t_built_do) h ?_
                exact .refl _
              · refine st_idx (l := p1) (c := c_api_Val) (c' := l_api_Val) h c_api_Val_eq (fun _ => rfl) (by decide) (fun x23 hi h => ?_)
                refine st_test h (fun hb h => ?_) (fun hb h => ?_)
                · refine st_call [sV [116, 114, 117, 101]] t_schema_Text h (fun x24 hy => (schema_Text_ok [116, 114, 117, 101] x24 hy)) (fun x24 hy h => ?_)
                  refine st_ret (t := t_built_do) h ?_
                  exact .refl _
                · refine st_call [sV [102, 97, 108, 115, 101]] t_schema_Text h (fun x25 hy => (schema_Text_ok [102, 97, 108, 115, 101] x25 hy)) (fun x25 hy h => ?_)
                  refine st_ret (t := t_built_do) h ?_
                  exact .refl _
            · refine st_test h (fun hb h => ?_) (fun hb h => ?_)
              · refine And.intro (by decide +kernel) (And.intro rfl ?_)
                refine st_idx (l := p1) (c := c_api_Val) (c' := l_api_Val) h c_api_Val_eq (fun _ => rfl) (by decide) (fun x26 hi h => ?_)
                refine st_idx (l := p1) (c := c_api_Val) (c' := l_api_Val) h c_api_Val_eq (fun _ => rfl) (by decide) (fun x27 hi h => ?_)
                refine st_calld [iV x26.N, iV x27.N] t_built_add h (fun x28 hy => (built_add_ok x26.N x27.N x28 hy)) (fun x28 hy h => ?_)
                refine st_calld [iV x28] t_schema_Number h (fun x29 hy => (schema_Number_ok x28 x29 hy)) (fun x29 hy h => ?_)
                refine st_ret (t := t_built_do) h ?_
                exact .refl _
              · refine st_test h (fun hb h => ?_) (fun hb h => ?_)
                · refine And.intro (by decide +kernel) (And.intro rfl ?_)
                  refine st_idx (l := p1) (c := c_api_Val) (c' := l_api_Val) h c_api_Val_eq (fun _ => rfl) (by decide) (fun x30 hi h => ?_)
                  refine st_idx (l := p1) (c := c_api_Val) (c' := l_api_Val) h c_api_Val_eq (fun _ => rfl) (by decide) (fun x31 hi h => ?_)
                  refine st_calld [iV x30.N, iV x31.N] t_built_sub h (fun x32 hy => (built_sub_ok x30.N x31.N x32 hy)) (fun x32 hy h => ?_)
                  refine st_calld [iV x32] t_schema_Number h (fun x33 hy => (schema_Number_ok x32 x33 hy)) (fun x33 hy h => ?_)
                  refine st_ret (t := t_built_do) h ?_
                  exact .refl _
                · refine st_test h (fun hb h => ?_) (fun hb h => ?_)
                  · refine And.intro (by decide +kernel) (And.intro rfl ?_)
                    refine st_idx (l := p1) (c := c_api_Val) (c' := l_api_Val) h c_api_Val_eq (fun _ => rfl) (by decide) (fun x34 hi h => ?_)
                    refine st_idx (l := p1) (c := c_api_Val) (c' := l_api_Val) h c_api_Val_eq (fun _ => rfl) (by decide) (fun x35 hi h => ?_)
                    refine st_calld [bV (decide (x34.N < x35.N))] t_schema_Truth h (fun x36 hy => (schema_Truth_ok (decide (x34.N < x35.N)) x36 hy)) (fun x36 hy h => ?_)
                    refine st_ret (t := t_built_do) h ?_
                    exact .refl _
                  · refine st_test h (fun hb h => ?_) (fun hb h => ?_)
                    · refine And.intro (by decide +kernel) (And.intro rfl ?_)
                      refine st_idx (l := p1) (c := c_api_Val) (c' := l_api_Val) h c_api_Val_eq (fun _ => rfl) (by decide) (fun x37 hi h => ?_)
                      refine st_idx (l := p1) (c := c_api_Val) (c' := l_api_Val) h c_api_Val_eq (fun _ => rfl) (by decide) (fun x38 hi h => ?_)
                      refine st_calld [.agg [iV x37.K, sV x37.S, iV x37.N, bV x37.B, .sl false (x37.L.map c_api_Val)], .agg [iV x38.K, sV x38.S, iV x38.N, bV x38.B, .sl false (x38.L.map c_api_Val)]] t_schema_Same h (fun x39 hy => (schema_Same_ok x37 x38 x39 hy)) (fun x39 hy h => ?_)
                      refine st_calld [bV x39] t_schema_Truth h (fun x40 hy => (schema_Truth_ok x39 x40 hy)) (fun x40 hy h => ?_)
                      refine st_ret (t := t_built_do) h ?_
                      exact .refl _
                    · refine st_test h (fun hb h => ?_) (fun hb h => ?_)
                      · refine st_bind h (fun o41 ho hk => ?_)
                        refine Exists.intro (JP1 _ _ o41 .normal (built_do_J0_0 )) (And.intro ?_ (join1 ?_))
                        · have h := ho
                          refine st_idx (l := p1) (c := c_api_Val) (c' := l_api_Val) h c_api_Val_eq (fun _ => rfl) (by decide) (fun x42 hi h => ?_)
                          refine st_test h (fun hb h => ?_) (fun hb h => ?_)
                          · refine st_idx (l := p1) (c := c_api_Val) (c' := l_api_Val) h c_api_Val_eq (fun _ => rfl) (by decide) (fun x43 hi h => ?_)
                            refine st_call [bV x43.B] t_schema_Truth h (fun x44 hy => (schema_Truth_ok x43.B x44 hy)) (fun x44 hy h => ?_)
                            refine JP1.a h ?_
                            exact Le.tow 1 0 rfl (.cons rfl (.refl _) (.cons rfl (.refl _) (.nil))) (.refl _) rfl
                          · refine st_call [bV false] t_schema_Truth h (fun x45 hy => (schema_Truth_ok false x45 hy)) (fun x45 hy h => ?_)
                            refine JP1.a h ?_
                            exact Le.tow 1 0 rfl (.cons rfl (.refl _) (.cons rfl (.refl _) (.nil))) (.refl _) rfl
                        · have h := hk
                          refine st_ret (t := t_built_do) h ?_
                          exact .refl _
                      · refine st_test h (fun hb h => ?_) (fun hb h => ?_)
                        · refine st_bind h (fun o46 ho hk => ?_)
                          refine Exists.intro (JP1 _ _ o46 .normal (built_do_J1_0 )) (And.intro ?_ (join1 ?_))
                          · have h := ho
                            refine st_idx (l := p1) (c := c_api_Val) (c' := l_api_Val) h c_api_Val_eq (fun _ => rfl) (by decide) (fun x47 hi h => ?_)
                            refine st_test h (fun hb h => ?_) (fun hb h => ?_)
                            · refine st_call [bV true] t_schema_Truth h (fun x48 hy => (schema_Truth_ok true x48 hy)) (fun x48 hy h => ?_)
                              refine JP1.a h ?_
                              exact Le.tow 1 0 rfl (.cons rfl (.refl _) (.cons rfl (.refl _) (.nil))) (.refl _) rfl
                            · refine st_idx (l := p1) (c := c_api_Val) (c' := l_api_Val) h c_api_Val_eq (fun _ => rfl) (by decide) (fun x49 hi h => ?_)
                              refine st_call [bV x49.B] t_schema_Truth h (fun x50 hy => (schema_Truth_ok x49.B x50 hy)) (fun x50 hy h => ?_)
                              refine JP1.a h ?_
                              exact Le.tow 1 0 rfl (.cons rfl (.refl _) (.cons rfl (.refl _) (.nil))) (.refl _) rfl
                          · have h := hk
                            refine st_ret (t := t_built_do) h ?_
                            exact .refl _
                        · refine st_test h (fun hb h => ?_) (fun hb h => ?_)
                          · refine st_idx (l := p1) (c := c_api_Val) (c' := l_api_Val) h c_api_Val_eq (fun _ => rfl) (by decide) (fun x51 hi h => ?_)
                            refine st_call [bV (!x51.B)] t_schema_Truth h (fun x52 hy => (schema_Truth_ok (!x51.B) x52 hy)) (fun x52 hy h => ?_)
                            refine st_ret (t := t_built_do) h ?_
                            exact .refl _
                          · refine st_call [sV p0, .sl false (p1.map c_api_Val)] t_built_text h (fun x53 hy => (built_text_ok p0 p1 x53 hy)) (fun x53 hy h => ?_)
                            refine st_ret (t := t_built_do) h ?_
                            exact .refl _
noncomputable def kind_Call (p0 : (List UInt8)) (p1 : (List Int)) : Option (Int × Bool) :=
  some (callP p0 p1)
set_option maxRecDepth 100000 in
set_option maxHeartbeats 4000000 in
theorem kind_Call_ok : ∀ (p0 : (List UInt8)) (p1 : (List Int)) (o : Int × Bool), kind_Call p0 p1 = some o → PCall Tryz.prog 16 [sV p0, .sl false (p1.map cInt)] (t_kind_Call o) := by
  intro p0 p1 o h
  unfold kind_Call at h
  cases h
  exact kcall_p _ _ false
noncomputable def built_Call_1 (p0 : api_Val) : Option (Bool) :=
  schema_Is p0 >>= fun x1 =>
  some (!x1)
set_option maxRecDepth 100000 in
set_option maxHeartbeats 4000000 in
theorem built_Call_1_ok : ∀ (p0 : api_Val) (o : Bool), built_Call_1 p0 = some o → PCall Tryz.prog 18 [.agg [iV p0.K, sV p0.S, iV p0.N, bV p0.B, .sl false (p0.L.map c_api_Val)]] (t_built_Call_1 o) := by
  intro p0 o h
  unfold built_Call_1 at h
  refine PCall.ofB mixed tbOk built_Call_1_lv Tryz.func18 rfl (by kernel_rfl) (Nat.le_of_ble_eq_true rfl) ?_
  refine st_call [.agg [iV p0.K, sV p0.S, iV p0.N, bV p0.B, .sl false (p0.L.map c_api_Val)]] t_schema_Is h (fun x1 hy => (schema_Is_ok p0 x1 hy)) (fun x1 hy h => ?_)
  refine st_ret (t := t_built_Call_1) h ?_
  exact .refl _
noncomputable def slices_IndexFunc_api_Val_api_Val_built_Call_1_L1 (p0 : (List api_Val)) (v8 : Int) : Option (Unit ⊕ Int) :=
  if (decide (v8 < (p0.length : Int))) then
    idx p0 v8 >>= fun x4 =>
    built_Call_1 x4 >>= fun x5 =>
    if x5 then
      some (.inr v8)
    else
      slices_IndexFunc_api_Val_api_Val_built_Call_1_L1 p0 (wr (v8 + 1))
  else
    some (.inl ())
  partial_fixpoint
set_option maxRecDepth 100000 in
set_option maxHeartbeats 4000000 in
theorem slices_IndexFunc_api_Val_api_Val_built_Call_1_L1_grp : ∀ (p0 : (List api_Val)), (∀ (v8 : Int) (o1 : Unit ⊕ Int), slices_IndexFunc_api_Val_api_Val_built_Call_1_L1 p0 v8 = some o1 → TL (0, 0) Tryz.prog 19 slices_IndexFunc_api_Val_api_Val_built_Call_1_L1_c (JP2 (0, 0) 19 o1 (.exit 0) (slices_IndexFunc_api_Val_api_Val_built_Call_1_L1_x0 p0) .ret (slices_IndexFunc_api_Val_api_Val_built_Call_1_L1_x1 p0)) (slices_IndexFunc_api_Val_api_Val_built_Call_1_L1_st p0 v8)) := by
  intro p0
  refine slices_IndexFunc_api_Val_api_Val_built_Call_1_L1.partial_correctness p0 _ ?_
  intro slices_IndexFunc_api_Val_api_Val_built_Call_1_L1' ih_slices_IndexFunc_api_Val_api_Val_built_Call_1_L1 v8 o1 h
  refine TL.round (bwp_sound mixed tbOk (lv := slices_IndexFunc_api_Val_api_Val_built_Call_1_lv) _ _ _ ?_)
  refine st_test h (fun hb h => ?_) (fun hb h => ?_)
  · refine st_idx (l := p0) (c := c_api_Val) (c' := l_api_Val) h c_api_Val_eq (fun _ => rfl) (by decide) (fun x4 hi h => ?_)
    refine st_call [.agg [iV x4.K, sV x4.S, iV x4.N, bV x4.B, .sl false (x4.L.map c_api_Val)]] t_built_Call_1 h (fun x5 hy => (built_Call_1_ok x4 x5 hy)) (fun x5 hy h => ?_)
    refine st_test h (fun hb h => ?_) (fun hb h => ?_)
    · exact JP2.b h (Le.tow 0 0 rfl (.cons rfl (.refl _) (.nil)) (.refl _) rfl)
    · refine TL.le (τ := slices_IndexFunc_api_Val_api_Val_built_Call_1_L1_st p0 (wr (v8 + 1))) ?_ ((ih_slices_IndexFunc_api_Val_api_Val_built_Call_1_L1 (wr (v8 + 1)) _ h))
      exact Le.tow 0 0 rfl (.cons rfl (.refl _) (.cons rfl (.refl _) (.cons rfl (.refl _) (.cons rfl (.refl _) (.nil))))) (.refl _) rfl
  · exact JP2.a h (Le.tow 0 0 rfl (.nil) (.refl _) rfl)
theorem slices_IndexFunc_api_Val_api_Val_built_Call_1_L1_ok : ∀ (p0 : (List api_Val)) (v8 : Int) (o1 : Unit ⊕ Int), slices_IndexFunc_api_Val_api_Val_built_Call_1_L1 p0 v8 = some o1 → TL (0, 0) Tryz.prog 19 slices_IndexFunc_api_Val_api_Val_built_Call_1_L1_c (JP2 (0, 0) 19 o1 (.exit 0) (slices_IndexFunc_api_Val_api_Val_built_Call_1_L1_x0 p0) .ret (slices_IndexFunc_api_Val_api_Val_built_Call_1_L1_x1 p0)) (slices_IndexFunc_api_Val_api_Val_built_Call_1_L1_st p0 v8) := fun p0 v8 o1 h => (slices_IndexFunc_api_Val_api_Val_built_Call_1_L1_grp p0) v8 o1 h
noncomputable def slices_IndexFunc_api_Val_api_Val_built_Call_1 (p0 : (List api_Val)) : Option (Int) :=
  (slices_IndexFunc_api_Val_api_Val_built_Call_1_L1 p0 0) >>= fun o1 =>
  match o1 with
  | .inl y2 =>
    some (-1)
  | .inr y3 =>
    some y3
set_option maxRecDepth 100000 in
set_option maxHeartbeats 4000000 in
theorem slices_IndexFunc_api_Val_api_Val_built_Call_1_ok : ∀ (p0 : (List api_Val)) (o : Int), slices_IndexFunc_api_Val_api_Val_built_Call_1 p0 = some o → CallOK Tryz.prog 34 [.p (.sl false (p0.map c_api_Val)), .fn (.func 18) [] []] ⟨[], []⟩ (t_slices_IndexFunc_api_Val_api_Val_built_Call_1 o) ⟨[], []⟩ := by
  intro p0 o h
  unfold slices_IndexFunc_api_Val_api_Val_built_Call_1 at h
  refine CallOK.ofB mixed tbOk slices_IndexFunc_api_Val_api_Val_built_Call_1_lv Tryz.func34 rfl (by kernel_rfl) (Nat.le_of_ble_eq_true rfl) rfl rfl rfl ?_
  refine view (lenMap _ _) rfl ?_
  refine st_bind h (fun o1 ho hk => ?_)
  refine Exists.intro (JP2 _ _ o1 (.exit 0) (slices_IndexFunc_api_Val_api_Val_built_Call_1_L1_x0 p0) .ret (slices_IndexFunc_api_Val_api_Val_built_Call_1_L1_x1 p0)) (And.intro (T_le (τ := slices_IndexFunc_api_Val_api_Val_built_Call_1_L1_st p0 0) ?_ (TL.loop (slices_IndexFunc_api_Val_api_Val_built_Call_1_L1_ok p0 0 o1 ho))) (join2 (fun y2 hy => ?_) (fun y3 hy => ?_)))
  · exact Le.tow 0 0 rfl (.cons rfl (.refl _) (.cons rfl (.refl _) (.cons rfl (.refl _) (.cons rfl (.refl _) (.nil))))) (.refl _) rfl
  · have h := (by rw [hy] at hk; exact hk)
    refine Exists.intro _ (And.intro (Le.refl _ _ _) ?_)
    exact st_retc (t := t_slices_IndexFunc_api_Val_api_Val_built_Call_1) (ss := fun o => ⟨[], []⟩) h ⟨[], rfl, .refl _, .refl _, rfl⟩
  · have h := (by rw [hy] at hk; exact hk)
    refine Exists.intro _ (And.intro (Le.refl _ _ _) ?_)
    exact st_retc (t := t_slices_IndexFunc_api_Val_api_Val_built_Call_1) (ss := fun o => ⟨[], []⟩) h ⟨[], rfl, .refl _, .refl _, rfl⟩
noncomputable def slices_ContainsFunc_api_Val_api_Val_built_Call_1 (p0 : (List api_Val)) : Option (Bool) :=
  slices_IndexFunc_api_Val_api_Val_built_Call_1 p0 >>= fun x1 =>
  some (decide (x1 ≥ 0))
set_option maxRecDepth 100000 in
set_option maxHeartbeats 4000000 in
theorem slices_ContainsFunc_api_Val_api_Val_built_Call_1_ok : ∀ (p0 : (List api_Val)) (o : Bool), slices_ContainsFunc_api_Val_api_Val_built_Call_1 p0 = some o → CallOK Tryz.prog 17 [.p (.sl false (p0.map c_api_Val)), .fn (.func 18) [] []] ⟨[], []⟩ (t_slices_ContainsFunc_api_Val_api_Val_built_Call_1 o) ⟨[], []⟩ := by
  intro p0 o h
  unfold slices_ContainsFunc_api_Val_api_Val_built_Call_1 at h
  refine CallOK.ofB mixed tbOk slices_ContainsFunc_api_Val_api_Val_built_Call_1_lv Tryz.func17 rfl (by kernel_rfl) (Nat.le_of_ble_eq_true rfl) rfl rfl rfl ?_
  refine st_callc _ _ h (fun x1 hy => ((slices_IndexFunc_api_Val_api_Val_built_Call_1_ok p0 x1 hy).fr [] [] rfl rfl rfl)) (fun x1 hy h => ?_)
  refine Exists.intro _ (And.intro (Le.refl _ _ _) ?_)
  exact st_retc (t := t_slices_ContainsFunc_api_Val_api_Val_built_Call_1) (ss := fun o => ⟨[], []⟩) h ⟨[], rfl, .refl _, .refl _, rfl⟩
noncomputable def built_Call (p0 : (List UInt8)) (p1 : (List api_Val)) : Option (api_Val × Int) :=
  (built_Call_L1 p0 p1 [] 0) >>= fun o1 =>
  kind_Call p0 o1 >>= fun x4 =>
  ( if (!x4.2) then
      some true
    else
      slices_ContainsFunc_api_Val_api_Val_built_Call_1 p1 >>= fun x6 =>
      some x6 : Option (Bool)) >>= fun o5 =>
  if o5 then
    some ((api_Val.mk 0 [] 0 false []), 201)
  else
    built_do p0 p1 >>= fun x7 =>
    some (x7.1, x7.2)
set_option maxRecDepth 100000 in
set_option maxHeartbeats 4000000 in
theorem built_Call_ok : ∀ (p0 : (List UInt8)) (p1 : (List api_Val)) (o : api_Val × Int), built_Call p0 p1 = some o → PCall Tryz.prog 7 [sV p0, .sl false (p1.map c_api_Val)] (t_built_Call o) := by
  intro p0 p1 o h
  unfold built_Call at h
  refine PCall.ofB mixed tbOk built_Call_lv Tryz.func7 rfl (by kernel_rfl) (Nat.le_of_ble_eq_true rfl) ?_
  refine view (lenMap _ _) rfl ?_
  refine st_bind h (fun o1 ho hk => ?_)
  refine Exists.intro (JP1 _ _ o1 (.exit 0) (built_Call_L1_x0 p0 p1)) (And.intro (T_le (τ := built_Call_L1_st p0 p1 [] 0) ?_ (TL.loop (built_Call_L1_ok p0 p1 [] 0 o1 ho))) (join1 ?_))
  · exact (Le.own 6 24 1 rfl sizeNil).trans (Le.tow 1 1 rfl (.cons rfl (.refl _) (.cons rfl (.refl _) (.cons rfl (.refl _) (.cons rfl (.refl _) (.cons rfl (.refl _) (.cons rfl (.refl _) (.cons rfl (.refl _) (.nil)))))))) (.refl _) rfl)
  have h := hk
  refine st_call [sV p0, .sl false (o1.map cInt)] t_kind_Call h (fun x4 hy => (kind_Call_ok p0 o1 x4 hy)) (fun x4 hy h => ?_)
  refine st_bind h (fun o5 ho hk => ?_)
  refine Exists.intro (JP1 _ _ o5 .normal (built_Call_J0_0 p0 p1 o1)) (And.intro ?_ (join1 ?_))
  · have h := ho
    refine st_test h (fun hb h => ?_) (fun hb h => ?_)
    · refine JP1.a h ?_
      exact Le.tow 1 1 rfl (.cons rfl (.refl _) (.cons rfl (.refl _) (.cons rfl (.refl _) (.cons rfl (.refl _) (.nil))))) (.refl _) rfl
    · refine st_callc _ _ h (fun x6 hy => ((slices_ContainsFunc_api_Val_api_Val_built_Call_1_ok p1 x6 hy).fr [] [] rfl rfl rfl)) (fun x6 hy h => ?_)
      refine JP1.a h ?_
      exact Le.tow 1 1 rfl (.cons rfl (.refl _) (.cons rfl (.refl _) (.cons rfl (.refl _) (.cons rfl (.refl _) (.nil))))) (.refl _) rfl
  · have h := hk
    refine st_test h (fun hb h => ?_) (fun hb h => ?_)
    · refine st_ret (t := t_built_Call) h ?_
      exact .tup (xs := [.agg [iV 0, sV [], iV 0, bV false, .sl true []], iV 201]) (ys := [.agg [iV 0, sV [], iV 0, bV false, .sl false []], iV 201]) (.cons (.agg' (.cons (.refl _) (.cons (.refl _) (.cons (.refl _) (.cons (.refl _) (.cons (.not) (.nil))))))) (.cons (.refl _) (.nil)))
    · refine st_call [sV p0, .sl false (p1.map c_api_Val)] t_built_do h (fun x7 hy => (built_do_ok p0 p1 x7 hy)) (fun x7 hy h => ?_)
      refine st_ret (t := t_built_Call) h ?_
      exact .refl _
mutual
noncomputable def nunciolaw16_Light (p0 : api_Val) (p1 : Int) : Option (api_Val) :=
  cutL p0.S 0 (if 60 < (p0.S.length : Int) then 60 else (p0.S.length : Int)) >>= fun x1 =>
  (nunciolaw16_Light_L1 p0 p1 x1 0 []) >>= fun o2 =>
  some (api_Val.mk p0.K x1 p0.N p0.B o2)
  partial_fixpoint
noncomputable def nunciolaw16_Light_L1 (p0 : api_Val) (p1 : Int) (x1 : (List UInt8)) (v6 : Int) (h2_4 : (List api_Val)) : Option ((List api_Val)) :=
  ( if (decide (v6 < (p0.L.length : Int))) then
      if (decide (v6 < 7)) then
        some (decide (p1 > 0))
      else
        some false
    else
      some false : Option (Bool)) >>= fun o3 =>
  if o3 then
    idx p0.L v6 >>= fun x4 =>
    nunciolaw16_Light x4 (wr (p1 - 1)) >>= fun x5 =>
    appL 64 h2_4 [x5] >>= fun x6 =>
    nunciolaw16_Light_L1 p0 p1 x1 (wr (v6 + 1)) x6
  else
    some h2_4
  partial_fixpoint
end
set_option maxRecDepth 100000 in
set_option maxHeartbeats 4000000 in
theorem nunciolaw16_Light_grp : (∀ (p0 : api_Val) (p1 : Int) (o : api_Val), nunciolaw16_Light p0 p1 = some o → PCall Tryz.prog 6 [.agg [iV p0.K, sV p0.S, iV p0.N, bV p0.B, .sl false (p0.L.map c_api_Val)], iV p1] (t_nunciolaw16_Light o)) ∧ (∀ (p0 : api_Val) (p1 : Int) (x1 : (List UInt8)) (v6 : Int) (h2_4 : (List api_Val)) (o2 : (List api_Val)), nunciolaw16_Light_L1 p0 p1 x1 v6 h2_4 = some o2 → TL (0, 0) Tryz.prog 50 nunciolaw16_Light_L1_c (JP1 (0, 0) 50 o2 (.exit 0) (nunciolaw16_Light_L1_x0 p0 p1 x1)) (nunciolaw16_Light_L1_st p0 p1 x1 v6 h2_4)) := by
  refine nunciolaw16_Light.mutual_partial_correctness _ _ ?_ ?_
  · intro nunciolaw16_Light_L1' ih_nunciolaw16_Light_L1 p0 p1 o h
    refine PCall.ofB mixed tbOk nunciolaw16_Light_lv Tryz.func6 rfl (by kernel_rfl) (Nat.le_of_ble_eq_true rfl) ?_
    refine And.intro (by decide +kernel) (And.intro rfl ?_)
    refine vrfl ?_
    refine st_cuts none (some (if 60 < (p0.S.length : Int) then 60 else (p0.S.length : Int))) h (fun x1 hi h => ?_)
    refine st_bind h (fun o2 ho hk => ?_)
    refine Exists.intro (JP1 _ _ o2 (.exit 0) (nunciolaw16_Light_L1_x0 p0 p1 x1)) (And.intro (T_le (τ := nunciolaw16_Light_L1_st p0 p1 x1 0 []) ?_ (TL.loop (ih_nunciolaw16_Light_L1 p0 p1 x1 0 [] o2 ho))) (join1 ?_))
    · exact (Le.ownH 2 4 26 5 rfl rfl sizeNil).trans (Le.tow 3 1 rfl (.cons rfl (.refl _) (.cons rfl (.refl _) (.cons rfl (.refl _) (.cons rfl (.refl _) (.cons rfl (.refl _) (.nil)))))) (.refl _) rfl)
    have h := hk
    refine st_ret (t := t_nunciolaw16_Light) h ?_
    exact .refl _
  · intro nunciolaw16_Light' nunciolaw16_Light_L1' ih_nunciolaw16_Light ih_nunciolaw16_Light_L1 p0 p1 x1 v6 h2_4 o2 h
    refine TL.round (bwp_sound mixed tbOk (lv := nunciolaw16_Light_lv) _ _ _ ?_)
    refine st_bind h (fun o3 ho hk => ?_)
    refine Exists.intro (JP1 _ _ o3 .normal (nunciolaw16_Light_J0_0 p0 p1 x1 v6 h2_4)) (And.intro ?_ (join1 ?_))
    · have h := ho
      refine view (lenMap _ _) rfl ?_
      refine st_test h (fun hb h => ?_) (fun hb h => ?_)
      · refine st_test h (fun hb h => ?_) (fun hb h => ?_)
        · refine JP1.a h ?_
          exact Le.tow 3 1 rfl (.cons rfl (.refl _) (.cons rfl (.refl _) (.cons rfl (.refl _) (.cons rfl (.refl _) (.cons rfl (.refl _) (.cons rfl (.refl _) (.nil))))))) (.refl _) rfl
        · refine JP1.a h ?_
          exact Le.tow 3 1 rfl (.cons rfl (.refl _) (.cons rfl (.refl _) (.cons rfl (.refl _) (.cons rfl (.refl _) (.cons rfl (.refl _) (.cons rfl (.refl _) (.nil))))))) (.refl _) rfl
      · refine bF ?_
        refine JP1.a h ?_
        exact Le.tow 3 1 rfl (.cons rfl (.refl _) (.cons rfl (.refl _) (.cons rfl (.refl _) (.cons rfl (.refl _) (.cons rfl (.refl _) (.cons rfl (.refl _) (.nil))))))) (.refl _) rfl
    · have h := hk
      refine st_test h (fun hb h => ?_) (fun hb h => ?_)
      · refine And.intro (by decide +kernel) (And.intro rfl ?_)
        refine st_idx (l := p0.L) (c := c_api_Val) (c' := l_api_Val) h c_api_Val_eq (fun _ => rfl) (by decide) (fun x4 hi h => ?_)
        refine st_calld [.agg [iV x4.K, sV x4.S, iV x4.N, bV x4.B, .sl false (x4.L.map c_api_Val)], iV (wr (p1 - 1))] t_nunciolaw16_Light h (fun x5 hy => (ih_nunciolaw16_Light x4 (wr (p1 - 1)) x5 hy)) (fun x5 hy h => ?_)
        refine st_appo (a := h2_4) (b := [x5]) (c := c_api_Val) h (.cons (.ceq (c_api_Val_eq _) (.refl _)) (.nil)) (fun x => by rw [c_api_Val_eq]; rfl) rfl (fun x6 hi h => ?_)
        refine TL.le (τ := nunciolaw16_Light_L1_st p0 p1 x1 (wr (v6 + 1)) x6) ?_ ((ih_nunciolaw16_Light_L1 p0 p1 x1 (wr (v6 + 1)) x6 _ h))
        exact Le.tow 3 1 rfl (.cons rfl (.refl _) (.cons rfl (.refl _) (.cons rfl (.refl _) (.cons rfl (.refl _) (.cons rfl (.refl _) (.nil)))))) (.refl _) rfl
      · exact JP1.a h (Le.tow 3 1 rfl (.cons rfl (.refl _) (.cons rfl (.refl _) (.nil))) (.refl _) rfl)
theorem nunciolaw16_Light_ok : ∀ (p0 : api_Val) (p1 : Int) (o : api_Val), nunciolaw16_Light p0 p1 = some o → PCall Tryz.prog 6 [.agg [iV p0.K, sV p0.S, iV p0.N, bV p0.B, .sl false (p0.L.map c_api_Val)], iV p1] (t_nunciolaw16_Light o) := fun p0 p1 o h => nunciolaw16_Light_grp.1 p0 p1 o h
noncomputable def nunciolaw31_BuiltCalls_L1 (p0 : (List UInt8)) (p1 : (List api_Val)) (v5 : (List api_Val)) (v6 : (List Int)) (v7 : Int) : Option (((List api_Val) × (List Int))) :=
  ( if (decide (v7 < (p1.length : Int))) then
      some (decide (v7 < 5))
    else
      some false : Option (Bool)) >>= fun o2 =>
  if o2 then
    idx p1 v7 >>= fun x3 =>
    nunciolaw16_Light x3 4 >>= fun x4 =>
    appL 64 v5 [x4] >>= fun x5 =>
    idx x5 v7 >>= fun x6 =>
    appL 8 v6 [x6.K] >>= fun x7 =>
    nunciolaw31_BuiltCalls_L1 p0 p1 x5 x7 (wr (v7 + 1))
  else
    some (v5, v6)
  partial_fixpoint
set_option maxRecDepth 100000 in
set_option maxHeartbeats 4000000 in
theorem nunciolaw31_BuiltCalls_L1_grp : ∀ (p0 : (List UInt8)) (p1 : (List api_Val)), (∀ (v5 : (List api_Val)) (v6 : (List Int)) (v7 : Int) (o1 : ((List api_Val) × (List Int))), nunciolaw31_BuiltCalls_L1 p0 p1 v5 v6 v7 = some o1 → TL (0, 0) Tryz.prog 84 nunciolaw31_BuiltCalls_L1_c (JP1 (0, 0) 84 o1 (.exit 0) (nunciolaw31_BuiltCalls_L1_x0 p0 p1)) (nunciolaw31_BuiltCalls_L1_st p0 p1 v5 v6 v7)) := by
  intro p0 p1
  refine nunciolaw31_BuiltCalls_L1.partial_correctness p0 p1 _ ?_
  intro nunciolaw31_BuiltCalls_L1' ih_nunciolaw31_BuiltCalls_L1 v5 v6 v7 o1 h
  refine TL.round (bwp_sound mixed tbOk (lv := nunciolaw31_BuiltCalls_lv) _ _ _ ?_)
  refine st_bind h (fun o2 ho hk => ?_)
  refine Exists.intro (JP1 _ _ o2 .normal (nunciolaw31_BuiltCalls_J0_0 p0 p1 v5 v6 v7)) (And.intro ?_ (join1 ?_))
  · have h := ho
    refine view (lenMap _ _) rfl ?_
    refine st_test h (fun hb h => ?_) (fun hb h => ?_)
    · refine JP1.a h ?_
      exact Le.tow 0 2 rfl (.cons rfl (.refl _) (.cons rfl (.refl _) (.cons rfl (.refl _) (.cons rfl (.refl _) (.cons rfl (.refl _) (.cons rfl (.refl _) (.nil))))))) (.refl _) rfl
    · refine JP1.a h ?_
      exact Le.tow 0 2 rfl (.cons rfl (.refl _) (.cons rfl (.refl _) (.cons rfl (.refl _) (.cons rfl (.refl _) (.cons rfl (.refl _) (.cons rfl (.refl _) (.nil))))))) (.refl _) rfl
  · have h := hk
    refine st_test h (fun hb h => ?_) (fun hb h => ?_)
    · refine st_idx (l := p1) (c := c_api_Val) (c' := l_api_Val) h c_api_Val_eq (fun _ => rfl) (by decide) (fun x3 hi h => ?_)
      refine st_call [.agg [iV x3.K, sV x3.S, iV x3.N, bV x3.B, .sl false (x3.L.map c_api_Val)], iV 4] t_nunciolaw16_Light h (fun x4 hy => (nunciolaw16_Light_ok x3 4 x4 hy)) (fun x4 hy h => ?_)
      refine st_appo (a := v5) (b := [x4]) (c := c_api_Val) h (.cons (.ceq (c_api_Val_eq _) (.refl _)) (.nil)) (fun x => by rw [c_api_Val_eq]; rfl) rfl (fun x5 hi h => ?_)
      refine st_idx (l := x5) (c := c_api_Val) (c' := l_api_Val) h c_api_Val_eq (fun _ => rfl) (by decide) (fun x6 hi h => ?_)
      refine st_appo (a := v6) (b := [x6.K]) (c := cInt) h (.refl _) (fun _ => rfl) rfl (fun x7 hi h => ?_)
      refine TL.le (τ := nunciolaw31_BuiltCalls_L1_st p0 p1 x5 x7 (wr (v7 + 1))) ?_ ((ih_nunciolaw31_BuiltCalls_L1 x5 x7 (wr (v7 + 1)) _ h))
      exact Le.tow 0 2 rfl (.cons rfl (.refl _) (.cons rfl (.refl _) (.cons rfl (.refl _) (.cons rfl (.refl _) (.cons rfl (.refl _) (.nil)))))) (.refl _) rfl
    · exact JP1.a h (Le.tow 0 2 rfl (.cons rfl (.refl _) (.cons rfl (.refl _) (.cons rfl (.refl _) (.nil)))) (.refl _) rfl)
theorem nunciolaw31_BuiltCalls_L1_ok : ∀ (p0 : (List UInt8)) (p1 : (List api_Val)) (v5 : (List api_Val)) (v6 : (List Int)) (v7 : Int) (o1 : ((List api_Val) × (List Int))), nunciolaw31_BuiltCalls_L1 p0 p1 v5 v6 v7 = some o1 → TL (0, 0) Tryz.prog 84 nunciolaw31_BuiltCalls_L1_c (JP1 (0, 0) 84 o1 (.exit 0) (nunciolaw31_BuiltCalls_L1_x0 p0 p1)) (nunciolaw31_BuiltCalls_L1_st p0 p1 v5 v6 v7) := fun p0 p1 v5 v6 v7 o1 h => (nunciolaw31_BuiltCalls_L1_grp p0 p1) v5 v6 v7 o1 h
noncomputable def nunciolaw31_number (p0 : Int) : Option (api_Val) :=
  some (api_Val.mk 2 [] p0 false [])
set_option maxRecDepth 100000 in
set_option maxHeartbeats 4000000 in
theorem nunciolaw31_number_ok : ∀ (p0 : Int) (o : api_Val), nunciolaw31_number p0 = some o → PCall Tryz.prog 13 [iV p0] (t_nunciolaw31_number o) := by
  intro p0 o h
  unfold nunciolaw31_number at h
  refine PCall.ofB mixed tbOk nunciolaw31_number_lv Tryz.func13 rfl (by kernel_rfl) (Nat.le_of_ble_eq_true rfl) ?_
  refine st_ret (t := t_nunciolaw31_number) h ?_
  exact .p (.agg' (.cons (.refl _) (.cons (.refl _) (.cons (.refl _) (.cons (.refl _) (.cons (.not) (.nil)))))))
noncomputable def nunciolaw31_awake : Option (Bool) :=
  R16_Text [104, 195, 169, 108, 108, 111] >>= fun x1 =>
  nunciolaw31_number 2 >>= fun x2 =>
  built_Call [102, 105, 114, 115, 116] [x1, x2] >>= fun x3 =>
  R16_Text [97, 97, 97] >>= fun x4 =>
  R16_Text [97, 97] >>= fun x5 =>
  R16_Text [98] >>= fun x6 =>
  built_Call [114, 101, 112, 108, 97, 99, 101] [x4, x5, x6] >>= fun x7 =>
  nunciolaw31_number 9223372036854775807 >>= fun x8 =>
  nunciolaw31_number 1 >>= fun x9 =>
  built_Call [97, 100, 100] [x8, x9] >>= fun x10 =>
  R16_Text [120] >>= fun x11 =>
  built_Call [103, 101, 116] ([(api_Val.mk 8 [] 0 false []), x11]) >>= fun x12 =>
  ( if (x3.2 == 0) then
      if (x3.1.S == [104, 195, 169]) then
        if (x7.2 == 0) then
          if (x7.1.S == [98, 97]) then
            if (x10.2 == 0) then
              if (x10.1.N == 9223372036854775807) then
                if (x12.2 == 0) then
                  if (x12.1.K == 1) then
                    some (x12.1.S == [])
                  else
                    some false
                else
                  some false
              else
                some false
            else
              some false
          else
            some false
        else
          some false
      else
        some false
    else
      some false : Option (Bool)) >>= fun o13 =>
  some o13
set_option maxRecDepth 100000 in
set_option maxHeartbeats 4000000 in
theorem nunciolaw31_awake_ok : ∀ (o : Bool), nunciolaw31_awake  = some o → PCall Tryz.prog 12 [] (t_nunciolaw31_awake o) := by
  intro o h
  unfold nunciolaw31_awake at h
  refine PCall.ofB mixed tbOk nunciolaw31_awake_lv Tryz.func12 rfl (by kernel_rfl) (Nat.le_of_ble_eq_true rfl) ?_
  refine st_call [sV [104, 195, 169, 108, 108, 111]] t_R16_Text h (fun x1 hy => (R16_Text_ok [104, 195, 169, 108, 108, 111] x1 hy)) (fun x1 hy h => ?_)
  refine st_call [iV 2] t_nunciolaw31_number h (fun x2 hy => (nunciolaw31_number_ok 2 x2 hy)) (fun x2 hy h => ?_)
  refine st_call [sV [102, 105, 114, 115, 116], .sl true [[iV x1.K, sV x1.S, iV x1.N, bV x1.B, .sl false (x1.L.map c_api_Val)], [iV x2.K, sV x2.S, iV x2.N, bV x2.B, .sl false (x2.L.map c_api_Val)]]] t_built_Call h (fun x3 hy => (built_Call_ok [102, 105, 114, 115, 116] [x1, x2] x3 hy).weak (.cons (.refl _) (.cons (.no (.cons (.ceq (c_api_Val_eq _) (.refl _)) (.cons (.ceq (c_api_Val_eq _) (.refl _)) (.nil)))) (.nil)))) (fun x3 hy h => ?_)
  refine st_call [sV [97, 97, 97]] t_R16_Text h (fun x4 hy => (R16_Text_ok [97, 97, 97] x4 hy)) (fun x4 hy h => ?_)
  refine st_call [sV [97, 97]] t_R16_Text h (fun x5 hy => (R16_Text_ok [97, 97] x5 hy)) (fun x5 hy h => ?_)
  refine st_call [sV [98]] t_R16_Text h (fun x6 hy => (R16_Text_ok [98] x6 hy)) (fun x6 hy h => ?_)
  refine st_call [sV [114, 101, 112, 108, 97, 99, 101], .sl true [[iV x4.K, sV x4.S, iV x4.N, bV x4.B, .sl false (x4.L.map c_api_Val)], [iV x5.K, sV x5.S, iV x5.N, bV x5.B, .sl false (x5.L.map c_api_Val)], [iV x6.K, sV x6.S, iV x6.N, bV x6.B, .sl false (x6.L.map c_api_Val)]]] t_built_Call h (fun x7 hy => (built_Call_ok [114, 101, 112, 108, 97, 99, 101] [x4, x5, x6] x7 hy).weak (.cons (.refl _) (.cons (.no (.cons (.ceq (c_api_Val_eq _) (.refl _)) (.cons (.ceq (c_api_Val_eq _) (.refl _)) (.cons (.ceq (c_api_Val_eq _) (.refl _)) (.nil))))) (.nil)))) (fun x7 hy h => ?_)
  refine st_call [iV 9223372036854775807] t_nunciolaw31_number h (fun x8 hy => (nunciolaw31_number_ok 9223372036854775807 x8 hy)) (fun x8 hy h => ?_)
  refine st_call [iV 1] t_nunciolaw31_number h (fun x9 hy => (nunciolaw31_number_ok 1 x9 hy)) (fun x9 hy h => ?_)
  refine st_call [sV [97, 100, 100], .sl true [[iV x8.K, sV x8.S, iV x8.N, bV x8.B, .sl false (x8.L.map c_api_Val)], [iV x9.K, sV x9.S, iV x9.N, bV x9.B, .sl false (x9.L.map c_api_Val)]]] t_built_Call h (fun x10 hy => (built_Call_ok [97, 100, 100] [x8, x9] x10 hy).weak (.cons (.refl _) (.cons (.no (.cons (.ceq (c_api_Val_eq _) (.refl _)) (.cons (.ceq (c_api_Val_eq _) (.refl _)) (.nil)))) (.nil)))) (fun x10 hy h => ?_)
  refine st_call [sV [120]] t_R16_Text h (fun x11 hy => (R16_Text_ok [120] x11 hy)) (fun x11 hy h => ?_)
  refine st_call [sV [103, 101, 116], .sl true [[iV 8, sV [], iV 0, bV false, .sl true []], [iV x11.K, sV x11.S, iV x11.N, bV x11.B, .sl false (x11.L.map c_api_Val)]]] t_built_Call h (fun x12 hy => (built_Call_ok [103, 101, 116] ([(api_Val.mk 8 [] 0 false []), x11]) x12 hy).weak (.cons (.refl _) (.cons (.no (.cons (.ceq (c_api_Val_eq _) (.cons (.refl _) (.cons (.refl _) (.cons (.refl _) (.cons (.refl _) (.cons (.not) (.nil))))))) (.cons (.ceq (c_api_Val_eq _) (.refl _)) (.nil)))) (.nil)))) (fun x12 hy h => ?_)
  refine st_bind h (fun o13 ho hk => ?_)
  refine Exists.intro (JP1 _ _ o13 .normal (nunciolaw31_awake_J0_0 x3 x7 x10 x12)) (And.intro ?_ (join1 ?_))
  · have h := ho
    refine st_test h (fun hb h => ?_) (fun hb h => ?_)
    · refine st_test h (fun hb h => ?_) (fun hb h => ?_)
      · refine st_test h (fun hb h => ?_) (fun hb h => ?_)
        · refine st_test h (fun hb h => ?_) (fun hb h => ?_)
          · refine st_test h (fun hb h => ?_) (fun hb h => ?_)
            · refine st_test h (fun hb h => ?_) (fun hb h => ?_)
              · refine st_test h (fun hb h => ?_) (fun hb h => ?_)
                · refine st_test h (fun hb h => ?_) (fun hb h => ?_)
                  · refine JP1.a h ?_
                    exact Le.tow 4 0 rfl (.cons rfl (.refl _) (.nil)) (.refl _) rfl
                  · refine JP1.a h ?_
                    exact Le.tow 4 0 rfl (.cons rfl (.refl _) (.nil)) (.refl _) rfl
                · refine bF ?_
                  refine JP1.a h ?_
                  exact Le.tow 4 0 rfl (.cons rfl (.refl _) (.nil)) (.refl _) rfl
              · refine bF ?_
                refine bF ?_
                refine JP1.a h ?_
                exact Le.tow 4 0 rfl (.cons rfl (.refl _) (.nil)) (.refl _) rfl
            · refine bF ?_
              refine bF ?_
              refine bF ?_
              refine JP1.a h ?_
              exact Le.tow 4 0 rfl (.cons rfl (.refl _) (.nil)) (.refl _) rfl
          · refine bF ?_
            refine bF ?_
            refine bF ?_
            refine bF ?_
            refine JP1.a h ?_
            exact Le.tow 4 0 rfl (.cons rfl (.refl _) (.nil)) (.refl _) rfl
        · refine bF ?_
          refine bF ?_
          refine bF ?_
          refine bF ?_
          refine bF ?_
          refine JP1.a h ?_
          exact Le.tow 4 0 rfl (.cons rfl (.refl _) (.nil)) (.refl _) rfl
      · refine bF ?_
        refine bF ?_
        refine bF ?_
        refine bF ?_
        refine bF ?_
        refine bF ?_
        refine JP1.a h ?_
        exact Le.tow 4 0 rfl (.cons rfl (.refl _) (.nil)) (.refl _) rfl
    · refine bF ?_
      refine bF ?_
      refine bF ?_
      refine bF ?_
      refine bF ?_
      refine bF ?_
      refine bF ?_
      refine JP1.a h ?_
      exact Le.tow 4 0 rfl (.cons rfl (.refl _) (.nil)) (.refl _) rfl
  · have h := hk
    refine st_ret (t := t_nunciolaw31_awake) h ?_
    exact .refl _
noncomputable def nunciolaw31_BuiltCalls (p0 : (List UInt8)) (p1 : (List api_Val)) : Option (Bool) :=
  (nunciolaw31_BuiltCalls_L1 p0 p1 [] [] 0) >>= fun o1 =>
  built_Call p0 o1.1 >>= fun x8 =>
  R31_Call p0 o1.1 >>= fun x9 =>
  ( if (x8.2 != x9.2) then
      some true
    else
      R16_Same x8.1 x9.1 >>= fun x11 =>
      some (!x11) : Option (Bool)) >>= fun o10 =>
  if o10 then
    some false
  else
    R15_Call p0 o1.2 >>= fun x12 =>
    ( if (x8.2 != 0) then
        nunciolaw31_awake >>= fun x14 =>
        some x14
      else
        if (x8.1.K == x12.1) then
          R16_Is x8.1 >>= fun x15 =>
          if x15 then
            nunciolaw31_awake >>= fun x16 =>
            some x16
          else
            some false
        else
          some false : Option (Bool)) >>= fun o13 =>
    some o13
set_option maxRecDepth 100000 in
set_option maxHeartbeats 4000000 in
theorem nunciolaw31_BuiltCalls_ok : ∀ (p0 : (List UInt8)) (p1 : (List api_Val)) (o : Bool), nunciolaw31_BuiltCalls p0 p1 = some o → PCall Tryz.prog 3 [sV p0, .sl false (p1.map c_api_Val)] (t_nunciolaw31_BuiltCalls o) := by
  intro p0 p1 o h
  unfold nunciolaw31_BuiltCalls at h
  refine PCall.ofB mixed tbOk nunciolaw31_BuiltCalls_lv Tryz.func3 rfl (by kernel_rfl) (Nat.le_of_ble_eq_true rfl) ?_
  refine st_bind h (fun o1 ho hk => ?_)
  refine Exists.intro (JP1 _ _ o1 (.exit 0) (nunciolaw31_BuiltCalls_L1_x0 p0 p1)) (And.intro (T_le (τ := nunciolaw31_BuiltCalls_L1_st p0 p1 [] [] 0) ?_ (TL.loop (nunciolaw31_BuiltCalls_L1_ok p0 p1 [] [] 0 o1 ho))) (join1 ?_))
  · exact Le.trans (τ := ⟨[(0, .p (sV p0)), (1, .p (.sl false (p1.map c_api_Val))), (5, .p (.sl true [])), (6, .p (.sl true [])), (7, .p (iV 0))], ⟨[], []⟩⟩) (Le.tow 0 0 rfl (.cons rfl (.refl _) (.cons rfl (.refl _) (.cons rfl (.refl _) (.cons rfl (.refl _) (.cons rfl (.refl _) (.nil)))))) (.refl _) rfl) ((Le.own 5 26 5 rfl sizeNil).trans ((Le.own 6 24 1 rfl sizeNil).trans (Le.tow 0 2 rfl (.cons rfl (.refl _) (.cons rfl (.refl _) (.cons rfl (.refl _) (.cons rfl (.refl _) (.cons rfl (.refl _) (.nil)))))) (.refl _) rfl)))
  have h := hk
  refine st_call [sV p0, .sl false (o1.1.map c_api_Val)] t_built_Call h (fun x8 hy => (built_Call_ok p0 o1.1 x8 hy)) (fun x8 hy h => ?_)
  refine st_call [sV p0, .sl false (o1.1.map c_api_Val)] t_R31_Call h (fun x9 hy => (R31_Call_ok p0 o1.1 x9 hy)) (fun x9 hy h => ?_)
  refine st_bind h (fun o10 ho hk => ?_)
  refine Exists.intro (JP1 _ _ o10 .normal (nunciolaw31_BuiltCalls_J1_0 p0 o1 x8 x9)) (And.intro ?_ (join1 ?_))
  · have h := ho
    refine st_test h (fun hb h => ?_) (fun hb h => ?_)
    · refine JP1.a h ?_
      exact Le.tow 2 2 rfl (.cons rfl (.refl _) (.cons rfl (.refl _) (.cons rfl (.refl _) (.cons rfl (.refl _) (.cons rfl (.refl _) (.nil)))))) (.refl _) rfl
    · refine st_call [.agg [iV x8.1.K, sV x8.1.S, iV x8.1.N, bV x8.1.B, .sl false (x8.1.L.map c_api_Val)], .agg [iV x9.1.K, sV x9.1.S, iV x9.1.N, bV x9.1.B, .sl false (x9.1.L.map c_api_Val)]] t_R16_Same h (fun x11 hy => (R16_Same_ok x8.1 x9.1 x11 hy)) (fun x11 hy h => ?_)
      refine JP1.a h ?_
      exact Le.tow 2 2 rfl (.cons rfl (.refl _) (.cons rfl (.refl _) (.cons rfl (.refl _) (.cons rfl (.refl _) (.cons rfl (.refl _) (.nil)))))) (.refl _) rfl
  · have h := hk
    refine st_test h (fun hb h => ?_) (fun hb h => ?_)
    · refine st_ret (t := t_nunciolaw31_BuiltCalls) h ?_
      exact .refl _
    · refine st_call [sV p0, .sl false (o1.2.map cInt)] t_R15_Call h (fun x12 hy => (R15_Call_ok p0 o1.2 x12 hy)) (fun x12 hy h => ?_)
      refine st_bind h (fun o13 ho hk => ?_)
      refine Exists.intro (JP1 _ _ o13 .normal (nunciolaw31_BuiltCalls_J2_0 o1 x8 x9)) (And.intro ?_ (join1 ?_))
      · have h := ho
        refine st_test h (fun hb h => ?_) (fun hb h => ?_)
        · refine bT ?_
          refine st_call [] t_nunciolaw31_awake h (fun x14 hy => (nunciolaw31_awake_ok x14 hy)) (fun x14 hy h => ?_)
          refine JP1.a h ?_
          exact Le.tow 2 2 rfl (.cons rfl (.refl _) (.nil)) (.refl _) rfl
        · refine st_test h (fun hb h => ?_) (fun hb h => ?_)
          · refine st_call [.agg [iV x8.1.K, sV x8.1.S, iV x8.1.N, bV x8.1.B, .sl false (x8.1.L.map c_api_Val)]] t_R16_Is h (fun x15 hy => (R16_Is_ok x8.1 x15 hy)) (fun x15 hy h => ?_)
            refine st_test h (fun hb h => ?_) (fun hb h => ?_)
            · refine st_call [] t_nunciolaw31_awake h (fun x16 hy => (nunciolaw31_awake_ok x16 hy)) (fun x16 hy h => ?_)
              refine JP1.a h ?_
              exact Le.tow 2 2 rfl (.cons rfl (.refl _) (.nil)) (.refl _) rfl
            · refine JP1.a h ?_
              exact Le.tow 2 2 rfl (.cons rfl (.refl _) (.nil)) (.refl _) rfl
          · refine bF ?_
            refine JP1.a h ?_
            exact Le.tow 2 2 rfl (.cons rfl (.refl _) (.nil)) (.refl _) rfl
      · have h := hk
        refine st_ret (t := t_nunciolaw31_BuiltCalls) h ?_
        exact .refl _
end Go.Proofs.YteahaflhihioaaaGreatDoor
end

section
namespace Go.Proofs.YteahaflhihioaaaGreatDoor
open Go.RowKit

abbrev mx : Nat := 9223372036854775807
@[simp] theorem idx_nat {α : Type} (l : List α) (i : Nat) : idx l (i : Int) = l[i]? := by
  unfold idx
  rw [if_pos (by omega)]
  rfl
@[simp] theorem idx_0 {α : Type} (l : List α) : idx l 0 = l[0]? := idx_nat l 0
@[simp] theorem idx_1 {α : Type} (l : List α) : idx l 1 = l[1]? := idx_nat l 1
@[simp] theorem bind_some' {α β : Type} (x : α) (f : α → Option β) : (some x >>= f) = f x := rfl
theorem wr_in {n : Int} (h1 : -9223372036854775808 ≤ n) (h2 : n ≤ 9223372036854775807) : wr n = n := w64 h1 h2
theorem wr_succ {i : Nat} (h : i < 9223372036854775807) : wr ((i : Int) + 1) = ((i + 1 : Nat) : Int) := by rw [wr_in (by omega) (by omega)]; rfl
theorem appL_ok {α : Type} {bytes : Nat} {a b : List α} (h : (a.length + b.length) * bytes ≤ 140737488355328) (h2 : a.length + b.length ≤ 9223372036854775807) : appL bytes a b = some (a ++ b) := by
  unfold appL; rw [if_pos ⟨h, h2⟩]
theorem cutL_ok {α : Type} {l : List α} {lo hi : Int} (h1 : 0 ≤ lo) (h2 : lo ≤ hi) (h3 : hi ≤ l.length) : cutL l lo hi = some ((l.take hi.toNat).drop lo.toNat) := by
  unfold cutL; rw [if_pos ⟨h1, h2, h3⟩]
theorem need_ok {p : Prop} [Decidable p] (h : p) : need p = some () := by unfold need; rw [if_pos h]
theorem getE {α : Type} {l : List α} {i : Nat} (h : i < l.length) : l[i]? = some l[i] := List.getElem?_eq_getElem h
theorem ltI (a b : Nat) : decide ((a : Int) < (b : Int)) = decide (a < b) := by
  congr 1; exact propext Int.ofNat_lt
/-- A loop over a list's places: what holds of the tail from i on. -/
theorem upto {α : Type} {l : List α} {φ : Nat → Prop} (h0 : φ l.length) (h : ∀ i, i < l.length → φ (i + 1) → φ i) : ∀ i, i ≤ l.length → φ i := by
  have key : ∀ n i, l.length - i = n → i ≤ l.length → φ i := by
    intro n
    induction n with
    | zero => intro i h1 h2; have : i = l.length := by omega
              subst this; exact h0
    | succ n ih => intro i h1 h2; exact h i (by omega) (ih (i + 1) (by omega) (by omega))
  exact fun i hi => key _ i rfl hi
theorem dropE {α : Type} {l : List α} {i : Nat} (h : i < l.length) : l.drop i = l[i] :: l.drop (i + 1) := List.drop_eq_getElem_cons h
end Go.Proofs.YteahaflhihioaaaGreatDoor
end

section
namespace Go.Proofs.YteahaflhihioaaaGreatDoor
open Go.RowKit

theorem kPlain (k : Int) : kind_Plain k = some (plainB k) := by
  unfold kind_Plain plainB
  by_cases h : k ≥ 1
  · simp [h]
  · simp [h]
theorem rPlain (k : Int) : R15_Plain k = some (plainB k) := by
  unfold R15_Plain plainB
  by_cases h1 : k = 1
  · simp [h1]
  · by_cases h2 : k = 2
    · simp [h2]
    · simp [h1, h2]
      rw [Bool.eq_iff_iff]; simp; omega
theorem kElem (k : Int) : kind_Elem k = some (elemP k) := by
  unfold kind_Elem elemP
  simp only [beq_iff_eq]
  split
  · rfl
  · split
    · rfl
    · split <;> rfl
theorem rElem (k : Int) : R15_Elem k = some (elemP k) := by
  unfold R15_Elem elemP
  simp only [beq_iff_eq]
  split
  · rfl
  · split
    · rfl
    · split <;> rfl
def ktab : List kind_field := tab.map fun f => ⟨f.1, f.2.1, f.2.2⟩
theorem kTable : kind_table = some ktab := rfl
theorem kFieldL (k : Int) (l : List UInt8) : ∀ (t : List (Int × List UInt8 × Int)), t.length ≤ mx → ∀ i, i ≤ t.length → kind_Field_L1 k l (t.map fun f => ⟨f.1, f.2.1, f.2.2⟩) i = some (if (fieldGo k l (t.drop i)).2 then .inr (fieldGo k l (t.drop i)).1 else .inl ()) := by
  intro t ht
  refine upto ?_ fun i hi ih => ?_
  · rw [kind_Field_L1]
    simp [fieldGo]
  · rw [kind_Field_L1, wr_succ (by simp only [mx] at ht; omega), ih]
    rw [dropE hi]
    by_cases h1 : t[i].1 = k
    · by_cases h2 : t[i].2.1 = l
      · simp [hi, h1, h2, fieldGo]
      · simp [hi, h1, h2, fieldGo]
    · simp [hi, h1, fieldGo]
theorem fieldGo_no (k : Int) (l : List UInt8) : ∀ t, (fieldGo k l t).2 = false → fieldGo k l t = (0, false)
  | [], _ => rfl
  | f :: t, h => by
    unfold fieldGo at h ⊢
    split at h
    · cases h
    · rename_i hn; rw [if_neg hn]; exact fieldGo_no k l t h
theorem kField (k : Int) (l : List UInt8) : kind_Field k l = some (fieldP k l) := by
  have := kFieldL k l tab (by decide) 0 (by omega)
  unfold kind_Field
  rw [kTable]
  simp only [bind_some']
  rw [show (0 : Int) = ((0 : Nat) : Int) from rfl, show ktab = tab.map fun f => (⟨f.1, f.2.1, f.2.2⟩ : kind_field) from rfl, this, List.drop_zero]
  unfold fieldP
  cases h : (fieldGo k l tab).2 with
  | true => simp only [bind_some', if_true]; rw [← h]
  | false => simp only [bind_some', Bool.false_eq_true, if_false]; rw [fieldGo_no k l tab h]; rfl
def fieldsFr (k : Int) (t : List (Int × List UInt8 × Int)) : List (List UInt8) := (t.filter fun f => f.1 = k).map fun f => f.2.1
theorem fieldsFr_cons (k : Int) (f : Int × List UInt8 × Int) (t : List (Int × List UInt8 × Int)) : fieldsFr k (f :: t) = if f.1 = k then f.2.1 :: fieldsFr k t else fieldsFr k t := by
  unfold fieldsFr
  by_cases h : f.1 = k <;> simp [h]
theorem kFieldsL (k : Int) (t : List (Int × List UInt8 × Int)) (ht : t.length ≤ 1000) : ∀ i, i ≤ t.length → ∀ o : List (List UInt8), o.length + (t.length - i) ≤ 1000 → kind_Fields_L1 k (t.map fun f => ⟨f.1, f.2.1, f.2.2⟩) o i = some (o ++ fieldsFr k (t.drop i)) := by
  refine upto ?_ fun i hi ih => ?_
  · intro o ho
    rw [kind_Fields_L1]
    simp [fieldsFr]
  · intro o ho
    rw [kind_Fields_L1, wr_succ (by omega), dropE hi, fieldsFr_cons]
    simp only [List.length_map, ltI, hi, decide_true, if_true, idx_nat, List.getElem?_map, getE hi, Option.map_some, bind_some']
    by_cases h1 : t[i].1 = k
    · rw [if_pos (by simpa using h1), if_pos h1, appL_ok (by simp; omega) (by simp; omega), bind_some', ih _ (by simp; omega)]
      simp
    · rw [if_neg (by simpa using h1), if_neg h1, ih _ (by omega)]
theorem kFields (k : Int) : kind_Fields k = some (fieldsL k) := by
  have := kFieldsL k tab (by decide) 0 (by omega) [] (by decide)
  unfold kind_Fields
  rw [kTable]
  simp only [bind_some']
  rw [show (0 : Int) = ((0 : Nat) : Int) from rfl, show ktab = tab.map fun f => (⟨f.1, f.2.1, f.2.2⟩ : kind_field) from rfl, this]
  rfl
def kindsL (k : Int) : List Int := (tab.filter fun f => f.1 = k).map fun f => f.2.2
theorem fields_none (k : Int) (h4 : k ≠ 4) (h5 : k ≠ 5) (h6 : k ≠ 6) : fieldsL k = [] ∧ kindsL k = [] := by
  have : tab.filter (fun f => f.1 = k) = [] := by
    rw [List.filter_eq_nil_iff]
    intro f hf
    have : ∀ f ∈ tab, f.1 = 4 ∨ f.1 = 5 ∨ f.1 = 6 := by decide
    have := this f hf
    simp; omega
  simp [fieldsL, kindsL, this]
theorem r_fields (k : Int) : R15_fields k = some (fieldsL k, kindsL k) := by
  unfold R15_fields
  by_cases h4 : k = 4
  · subst h4; rfl
  · by_cases h5 : k = 5
    · subst h5; rfl
    · by_cases h6 : k = 6
      · subst h6; rfl
      · simp [h4, h5, h6, fields_none k h4 h5 h6]
theorem rFields (k : Int) : R15_Fields k = some (fieldsL k) := by
  unfold R15_Fields; rw [r_fields]; rfl
def lkP (l : List UInt8) : List (List UInt8) → List Int → Int × Bool
  | n :: ns, x :: xs => if n = l then (x, true) else lkP l ns xs
  | _, _ => (0, false)
theorem fieldGo_lk (k : Int) (l : List UInt8) : ∀ t : List (Int × List UInt8 × Int), fieldGo k l t = lkP l ((t.filter fun f => f.1 = k).map fun f => f.2.1) ((t.filter fun f => f.1 = k).map fun f => f.2.2)
  | [] => rfl
  | f :: t => by
    unfold fieldGo
    by_cases h1 : f.1 = k
    · by_cases h2 : f.2.1 = l
      · simp [h1, h2, lkP]
      · simp only [h1, h2, and_false, if_false, List.filter_cons, decide_true, if_true, List.map_cons, lkP]
        exact fieldGo_lk k l t
    · simp only [h1, false_and, if_false, List.filter_cons, decide_false, Bool.false_eq_true]
      exact fieldGo_lk k l t
theorem rFieldL (l : List UInt8) (ns : List (List UInt8)) (xs : List Int) (hl : ns.length = xs.length) (hn : ns.length ≤ mx) : ∀ i, i ≤ ns.length → R15_Field_L1 l (ns, xs) i = some (if (lkP l (ns.drop i) (xs.drop i)).2 then .inr (lkP l (ns.drop i) (xs.drop i)).1 else .inl ()) := by
  refine upto ?_ fun i hi ih => ?_
  · rw [R15_Field_L1]
    simp [lkP]
  · have hi2 : i < xs.length := by omega
    rw [R15_Field_L1, wr_succ (by simp only [mx] at hn; omega), ih, dropE hi, dropE hi2]
    by_cases h1 : ns[i] = l
    · simp [hi, hi2, h1, lkP]
    · simp [hi, h1, lkP]
theorem kinds_len (k : Int) : (fieldsL k).length = (kindsL k).length := by simp [kindsL, fieldsL]
theorem fieldsL_le (k : Int) : (fieldsL k).length ≤ 13 := by
  simp only [fieldsL, List.length_map]
  exact Nat.le_trans (List.length_filter_le _ _) (by decide)
theorem rField (k : Int) (l : List UInt8) : R15_Field k l = some (fieldP k l) := by
  have := rFieldL l (fieldsL k) (kindsL k) (kinds_len k) (by have := fieldsL_le k; simp only [mx]; omega) 0 (by omega)
  unfold R15_Field
  rw [r_fields]
  simp only [bind_some']
  rw [show (0 : Int) = ((0 : Nat) : Int) from rfl, this, List.drop_zero, List.drop_zero]
  have e : fieldP k l = lkP l (fieldsL k) (kindsL k) := fieldGo_lk k l tab
  rw [← e]
  cases h : (fieldP k l).2 with
  | true => simp only [bind_some', if_true]; rw [← h]
  | false => simp only [bind_some', Bool.false_eq_true, if_false]; rw [show fieldP k l = (0, false) from fieldGo_no k l tab h]; rfl
end Go.Proofs.YteahaflhihioaaaGreatDoor
end

section
namespace Go.Proofs.YteahaflhihioaaaGreatDoor
open Go.RowKit

mutual
def sz : api_Val → Nat
  | ⟨_, _, _, _, l⟩ => 1 + szs l
def szs : List api_Val → Nat
  | [] => 0
  | v :: r => 1 + sz v + szs r
end
theorem sz_eq (v : api_Val) : sz v = 1 + szs v.L := by cases v; rw [sz]
theorem sz_mem : ∀ {l : List api_Val} {v : api_Val}, v ∈ l → sz v < szs l
  | x :: r, v, h => by
    rcases List.mem_cons.1 h with rfl | h
    · simp [szs]; omega
    · have := sz_mem h; simp [szs]; omega
mutual
def few : api_Val → Prop
  | ⟨_, _, _, _, l⟩ => l.length ≤ 65536 ∧ fews l
def fews : List api_Val → Prop
  | [] => True
  | v :: r => few v ∧ fews r
end
theorem few_eq (v : api_Val) : few v ↔ v.L.length ≤ 65536 ∧ fews v.L := by cases v; rw [few]
theorem fews_mem : ∀ {l : List api_Val}, fews l → ∀ v ∈ l, few v
  | x :: r, h, v, hv => by
    rcases List.mem_cons.1 hv with rfl | hv
    · exact h.1
    · exact fews_mem h.2 v hv
theorem fews_of : ∀ {l : List api_Val}, (∀ v ∈ l, few v) → fews l
  | [], _ => True.intro
  | x :: r, h => ⟨h x (by simp), fews_of fun v hv => h v (by simp [hv])⟩
mutual
def cnf : api_Val → Bool
  | ⟨k, s, n, b, l⟩ => (k == 1 || s == []) && (k == 2 || n == 0) && (k == 3 || !b) &&
    (if plainB k then l.isEmpty else if (elemP k).2 then decide (l.length ≤ 4096) && cnfA (elemP k).1 l
      else decide (fieldsL k ≠ []) && decide ((fieldsL k).length = l.length) && cnfF k (fieldsL k) l)
def cnfA : Int → List api_Val → Bool
  | _, [] => true
  | e, v :: r => v.K == e && cnf v && cnfA e r
def cnfF : Int → List (List UInt8) → List api_Val → Bool
  | _, _, [] => true
  | _, [], _ :: _ => true
  | k, n :: ns, v :: r => v.K == (fieldP k n).1 && cnf v && cnfF k ns r
end
theorem cnf_eq (v : api_Val) : cnf v = ((v.K == 1 || v.S == []) && (v.K == 2 || v.N == 0) && (v.K == 3 || !v.B) &&
    (if plainB v.K then v.L.isEmpty else if (elemP v.K).2 then decide (v.L.length ≤ 4096) && cnfA (elemP v.K).1 v.L
      else decide (fieldsL v.K ≠ []) && decide ((fieldsL v.K).length = v.L.length) && cnfF v.K (fieldsL v.K) v.L)) := by cases v; rw [cnf]
theorem len0I (l : List api_Val) : ((l.length : Int) == 0) = l.isEmpty := by cases l <;> simp; omega
theorem isIdx {N : Nat} (IH : ∀ v, sz v ≤ N → few v → schema_Is v = some (cnf v)) (e : Int) (l : List api_Val) (hs : szs l ≤ N) (hf : fews l) (hl : l.length ≤ 65536) :
    ∀ i, i ≤ l.length → ∃ o, slices_IndexFunc_api_Val_api_Val_schema_Is_1_L1 l e i = some o ∧ (match o with | .inl _ => cnfA e (l.drop i) = true | .inr j => 0 ≤ j ∧ cnfA e (l.drop i) = false) := by
  refine upto ?_ fun i hi ih => ?_
  · rw [slices_IndexFunc_api_Val_api_Val_schema_Is_1_L1]
    refine ⟨.inl (), by simp, by simp [cnfA]⟩
  · rw [slices_IndexFunc_api_Val_api_Val_schema_Is_1_L1, wr_succ (by omega), dropE hi]
    obtain ⟨o, ho, hk⟩ := ih
    have hm := List.getElem_mem hi
    have hv := IH l[i] (by have := sz_mem hm; omega) (fews_mem hf _ hm)
    simp only [ltI, hi, decide_true, if_true, idx_nat, getE hi, bind_some', schema_Is_1, cnfA]
    by_cases h1 : l[i].K = e
    · simp only [h1, bne_self_eq_false, Bool.false_eq_true, if_false, hv, bind_some', beq_self_eq_true, Bool.true_and]
      cases h2 : cnf l[i] with
      | true =>
        simp only [Bool.not_true, Bool.false_eq_true, if_false, Bool.true_and]
        exact ⟨o, ho, hk⟩
      | false =>
        simp only [Bool.not_false, if_true, Bool.false_and]
        exact ⟨.inr i, rfl, by simp⟩
    · have hb : (l[i].K != e) = true := by simpa using h1
      have hb2 : (l[i].K == e) = false := by simpa using h1
      simp only [hb, if_true, bind_some', hb2, Bool.false_and]
      exact ⟨.inr i, rfl, by simp⟩
theorem isCont {N : Nat} (IH : ∀ v, sz v ≤ N → few v → schema_Is v = some (cnf v)) (e : Int) (l : List api_Val) (hs : szs l ≤ N) (hf : fews l) (hl : l.length ≤ 65536) :
    slices_ContainsFunc_api_Val_api_Val_schema_Is_1 l e = some (!cnfA e l) := by
  rw [slices_ContainsFunc_api_Val_api_Val_schema_Is_1, slices_IndexFunc_api_Val_api_Val_schema_Is_1]
  obtain ⟨o, ho, hk⟩ := isIdx IH e l hs hf hl 0 (by omega)
  rw [show (0 : Int) = ((0 : Nat) : Int) from rfl, ho]
  rw [List.drop_zero] at hk
  cases o with
  | inl y => simp only [bind_some', hk]; rfl
  | inr j => simp only [bind_some', hk.2, decide_eq_true hk.1]; simp [hk.1]
theorem isFs {N : Nat} (IH : ∀ v, sz v ≤ N → few v → schema_Is v = some (cnf v)) (v : api_Val) (o1 : List UInt8 × Int × Bool) (x4 : Int × Bool) (ns : List (List UInt8)) (hs : szs v.L ≤ N) (hf : fews v.L) (hl : ns.length = v.L.length) (hb : v.L.length ≤ 65536) :
    ∀ i, i ≤ ns.length → schema_Is_L1 v o1 x4 ns i = some (if cnfF v.K (ns.drop i) (v.L.drop i) then .inl () else .inr ()) := by
  refine upto ?_ fun i hi ih => ?_
  · rw [schema_Is_L1]
    have : v.L.drop ns.length = [] := by rw [hl]; simp
    simp [this, cnfF]
  · have hi2 : i < v.L.length := by omega
    have hm := List.getElem_mem hi2
    have hv := IH v.L[i] (by have := sz_mem hm; omega) (fews_mem hf _ hm)
    rw [schema_Is_L1, wr_succ (by omega), ih, dropE hi, dropE hi2, cnfF]
    simp only [ltI, hi, decide_true, if_true, idx_nat, getE hi, getE hi2, bind_some', kField, hv]
    by_cases h1 : v.L[i].K = (fieldP v.K ns[i]).1
    · simp only [h1, bne_self_eq_false, Bool.false_eq_true, if_false, bind_some', beq_self_eq_true, Bool.true_and]
      cases cnf v.L[i] <;> simp
    · have h2 : (v.L[i].K == (fieldP v.K ns[i]).1) = false := by simpa using h1
      have h3 : (v.L[i].K != (fieldP v.K ns[i]).1) = true := by simpa using h1
      simp [h3, h2]
theorem sIs_n : ∀ (N : Nat) (v : api_Val), sz v ≤ N → few v → schema_Is v = some (cnf v) := by
  intro N
  induction N with
  | zero => intro v h; rw [sz_eq] at h; omega
  | succ N IH =>
    intro v hN hf
    obtain ⟨hl, hfs⟩ := (few_eq v).1 hf
    have hs : szs v.L ≤ N := by rw [sz_eq] at hN; omega
    rw [schema_Is, cnf_eq]
    have e1 : (if (v.K == 1) = true then some (v.S, (0 : Int), false) else if (v.K == 2) = true then some ([], v.N, false) else if (v.K == 3) = true then some ([], 0, v.B) else some ([], 0, false)) = some (if v.K = 1 then v.S else [], if v.K = 2 then v.N else 0, if v.K = 3 then v.B else false) := by
      by_cases h1 : v.K = 1
      · simp [h1]
      · by_cases h2 : v.K = 2
        · simp [h2]
        · by_cases h3 : v.K = 3
          · simp [h3]
          · simp [h1, h2, h3]
    rw [e1]
    simp only [bind_some']
    have e2 : (if (!((if v.K = 1 then v.S else []) == v.S)) = true then some true else if ((if v.K = 2 then v.N else 0) != v.N) = true then some true else some ((if v.K = 3 then v.B else false) != v.B)) = some (!((v.K == 1 || v.S == []) && (v.K == 2 || v.N == 0) && (v.K == 3 || !v.B))) := by
      by_cases h1 : v.K = 1
      · by_cases hn : v.N = 0
        · cases hb : v.B <;> simp [h1, hn]
        · have : ¬ (0 = v.N) := fun h => hn h.symm
          cases hb : v.B <;> simp [h1, hn, this]
      · by_cases hS : v.S = []
        · by_cases h2 : v.K = 2
          · simp only [h2, hS]; cases hb : v.B <;> simp
          · by_cases hn : v.N = 0
            · by_cases h3 : v.K = 3
              · simp [h3, hS, hn]
              · cases hb : v.B <;> simp [h1, h2, h3, hS, hn]
            · have : ¬ (0 = v.N) := fun h => hn h.symm
              simp [h1, h2, hS, hn, this]
        · have : ¬ ([] = v.S) := fun h => hS h.symm
          simp [h1, hS, this]
    rw [e2]
    simp only [bind_some', kPlain, kElem, kFields]
    cases hc : ((v.K == 1 || v.S == []) && (v.K == 2 || v.N == 0) && (v.K == 3 || !v.B)) with
    | false => simp
    | true =>
      simp only [Bool.not_true, Bool.false_eq_true, if_false, Bool.true_and]
      cases hp : plainB v.K with
      | true => simp only [if_true]; rw [len0I]
      | false =>
        simp only [Bool.false_eq_true, if_false]
        cases he : (elemP v.K).2 with
        | true =>
          simp only [if_true]
          rw [isCont IH _ _ hs hfs hl]
          by_cases h4 : v.L.length ≤ 4096
          · have : ((v.L.length : Int) ≤ 4096) := by omega
            simp [this, h4]
          · have : ¬ ((v.L.length : Int) ≤ 4096) := by omega
            simp [this, h4]
        | false =>
          simp only [Bool.false_eq_true, if_false]
          by_cases h5 : fieldsL v.K = []
          · simp [h5]
          · have h6 : (((fieldsL v.K).length : Int) == 0) = false := by
              cases hq : fieldsL v.K with
              | nil => exact absurd hq h5
              | cons x r => simp; omega
            by_cases h7 : (fieldsL v.K).length = v.L.length
            · rw [show (0 : Int) = ((0 : Nat) : Int) from rfl] at h6 ⊢
              rw [isFs IH v _ _ _ hs hfs h7 hl 0 (by omega)]
              have h8 : (((fieldsL v.K).length : Int) != (v.L.length : Int)) = false := by rw [h7]; simp
              simp only [h6, Bool.false_eq_true, if_false, bind_some', h8, List.drop_zero]
              cases hq : cnfF v.K (fieldsL v.K) v.L <;> simp [h5, h7]
            · have h8 : (((fieldsL v.K).length : Int) != (v.L.length : Int)) = true := by simp; omega
              simp only [h6, Bool.false_eq_true, if_false, bind_some', h8, if_true, h7, decide_false, Bool.and_false, Bool.false_and]
theorem sIs (v : api_Val) (h : few v) : schema_Is v = some (cnf v) := sIs_n _ v (Nat.le_refl _) h
theorem is_not (v : api_Val) (h : ¬ (1 ≤ v.K ∧ v.K ≤ 9)) : cnf v = false := by
  rw [cnf_eq]
  have h1 : plainB v.K = false := by simp [plainB]; omega
  have h2 : elemP v.K = (0, false) := by unfold elemP; rw [if_neg (by omega), if_neg (by omega), if_neg (by omega)]
  have h3 : fieldsL v.K = [] := (fields_none v.K (by omega) (by omega) (by omega)).1
  simp [h1, h2, h3]
theorem isL {N : Nat} (IH : ∀ v, sz v ≤ N → few v → R16_Is v = some (cnf v)) (v : api_Val) (x4 : Int × Bool) (ns : List (List UInt8)) (hs : szs v.L ≤ N) (hf : fews v.L) (hb : v.L.length ≤ 65536) (hl : x4.2 = false → ns.length = v.L.length) :
    ∀ i, i ≤ v.L.length → R16_Is_L1 v x4 ns i = some (if (if x4.2 then cnfA x4.1 (v.L.drop i) else cnfF v.K (ns.drop i) (v.L.drop i)) then .inl () else .inr ()) := by
  refine upto ?_ fun i hi ih => ?_
  · rw [R16_Is_L1]
    cases x4.2 <;> simp [cnfA, cnfF]
  · have hm := List.getElem_mem hi
    have hv := IH v.L[i] (by have := sz_mem hm; omega) (fews_mem hf _ hm)
    rw [R16_Is_L1, wr_succ (by omega), ih, dropE hi]
    cases h4 : x4.2 with
    | true =>
      simp only [ltI, hi, decide_true, if_true, idx_nat, getE hi, bind_some', hv, Bool.not_true, Bool.false_eq_true, if_false, cnfA]
      by_cases h1 : v.L[i].K = x4.1
      · cases hV : cnf v.L[i] <;> simp [h1]
      · simp [h1]
    | false =>
      have hi2 : i < ns.length := by rw [hl h4]; exact hi
      rw [dropE hi2, cnfF]
      simp only [ltI, hi, decide_true, if_true, idx_nat, getE hi, getE hi2, bind_some', hv, Bool.not_false, rField, Bool.false_eq_true, if_false]
      by_cases h1 : v.L[i].K = (fieldP v.K ns[i]).1
      · cases hV : cnf v.L[i] <;> simp [h1]
      · simp [h1]
theorem rIs_n : ∀ (N : Nat) (v : api_Val), sz v ≤ N → few v → R16_Is v = some (cnf v) := by
  intro N
  induction N with
  | zero => intro v h; rw [sz_eq] at h; omega
  | succ N IH =>
    intro v hN hf
    obtain ⟨hl, hfs⟩ := (few_eq v).1 hf
    have hs : szs v.L ≤ N := by rw [sz_eq] at hN; omega
    rw [R16_Is]
    by_cases hr : 1 ≤ v.K ∧ v.K ≤ 9
    · have e0 : (if decide (v.K < 1) = true then some true else some (decide (v.K > 9))) = some false := by
        rw [if_neg (by simp; omega)]; simp; omega
      rw [e0]
      simp only [bind_some', Bool.false_eq_true, if_false]
      rw [cnf_eq]
      have e2 : (if (v.K != 1) = true then if (!(v.S == [])) = true then some true else if (v.K != 2) = true then if (v.N != 0) = true then some true else if (v.K != 3) = true then some v.B else some false else if (v.K != 3) = true then some v.B else some false
          else if (v.K != 2) = true then if (v.N != 0) = true then some true else if (v.K != 3) = true then some v.B else some false else if (v.K != 3) = true then some v.B else some false) = some (!((v.K == 1 || v.S == []) && (v.K == 2 || v.N == 0) && (v.K == 3 || !v.B))) := by
        by_cases h1 : v.K = 1
        · by_cases hn : v.N = 0 <;> simp [h1, hn]
        · by_cases hS : v.S = []
          · by_cases h2 : v.K = 2
            · simp [h2, hS]
            · by_cases hn : v.N = 0
              · by_cases h3 : v.K = 3
                · simp [h3, hS, hn]
                · simp [h1, h2, h3, hS, hn]
              · simp [h1, h2, hS, hn]
          · simp [h1, hS]
      rw [e2]
      simp only [bind_some', rPlain, rElem, rFields]
      cases hc : ((v.K == 1 || v.S == []) && (v.K == 2 || v.N == 0) && (v.K == 3 || !v.B)) with
      | false => simp
      | true =>
        simp only [Bool.not_true, Bool.false_eq_true, if_false, Bool.true_and]
        cases hp : plainB v.K with
        | true => simp only [if_true]; rw [len0I]
        | false =>
          simp only [Bool.false_eq_true, if_false]
          cases he : (elemP v.K).2 with
          | true =>
            simp only [if_true, Bool.not_true, Bool.false_eq_true, if_false]
            by_cases h4 : v.L.length ≤ 4096
            · have h5 : ¬ ((v.L.length : Int) > 4096) := by omega
              rw [show (0 : Int) = ((0 : Nat) : Int) from rfl, isL IH v _ _ hs hfs hl (fun h => by rw [he] at h; cases h) 0 (by omega)]
              simp only [h5, decide_false, Bool.false_eq_true, if_false, bind_some', he, if_true, List.drop_zero, h4, decide_true, Bool.true_and]
              cases cnfA (elemP v.K).1 v.L <;> simp
            · have h5 : ((v.L.length : Int) > 4096) := by omega
              simp [h5, h4]
          | false =>
            simp only [Bool.not_false, Bool.false_eq_true, if_false, if_true]
            have h5 : fieldsL v.K ≠ [] := by
              have hk : v.K = 4 ∨ v.K = 5 ∨ v.K = 6 := by
                have h1 : ¬ v.K ≤ 3 := fun h => by simp [plainB] at hp; omega
                have h7 : v.K ≠ 7 := fun h => by rw [h] at he; cases he
                have h8 : v.K ≠ 8 := fun h => by rw [h] at he; cases he
                have h9 : v.K ≠ 9 := fun h => by rw [h] at he; cases he
                omega
              rcases hk with hk | hk | hk <;> rw [hk] <;> decide
            by_cases h7 : (fieldsL v.K).length = v.L.length
            · have h8 : ((v.L.length : Int) != ((fieldsL v.K).length : Int)) = false := by rw [h7]; simp
              rw [show (0 : Int) = ((0 : Nat) : Int) from rfl, isL IH v _ _ hs hfs hl (fun _ => h7) 0 (by omega)]
              simp only [bind_some', h8, Bool.false_eq_true, if_false, he, List.drop_zero, h5, ne_eq, not_false_eq_true, decide_true, h7, Bool.true_and]
              cases cnfF v.K (fieldsL v.K) v.L <;> simp
            · have h8 : ((v.L.length : Int) != ((fieldsL v.K).length : Int)) = true := by simp; omega
              simp [h8, h7]
    · have e0 : (if decide (v.K < 1) = true then some true else some (decide (v.K > 9))) = some true := by
        by_cases h : v.K < 1
        · rw [if_pos (by simpa using h)]
        · rw [if_neg (by simpa using h)]; simp; omega
      rw [e0, is_not v hr]; rfl
theorem rIs (v : api_Val) (h : few v) : R16_Is v = some (cnf v) := rIs_n _ v (Nat.le_refl _) h
end Go.Proofs.YteahaflhihioaaaGreatDoor
end

section
namespace Go.Proofs.YteahaflhihioaaaGreatDoor
open Go.RowKit

mutual
def sme : api_Val → api_Val → Bool
  | ⟨k, s, n, b, l⟩, v => k == v.K && s == v.S && n == v.N && b == v.B && smes l v.L
def smes : List api_Val → List api_Val → Bool
  | [], [] => true
  | v :: r, v' :: r' => sme v v' && smes r r'
  | _, _ => false
end
theorem sme_eq (a b : api_Val) : sme a b = (a.K == b.K && a.S == b.S && a.N == b.N && a.B == b.B && smes a.L b.L) := by cases a; rw [sme]
theorem smes_len : ∀ l m : List api_Val, smes l m = true → l.length = m.length
  | [], [], _ => rfl
  | [], _ :: _, h => by simp [smes] at h
  | _ :: _, [], h => by simp [smes] at h
  | v :: r, v' :: r', h => by simp only [smes, Bool.and_eq_true] at h; simp [smes_len r r' h.2]
mutual
theorem sme_refl : ∀ a : api_Val, sme a a = true
  | ⟨k, s, n, b, l⟩ => by rw [sme]; simp [smes_refl l]
theorem smes_refl : ∀ l : List api_Val, smes l l = true
  | [] => rfl
  | v :: r => by rw [smes, sme_refl v, smes_refl r]; rfl
end
theorem sSmL {N : Nat} (IH : ∀ a b, sz a ≤ N → few a → schema_Same a b = some (sme a b)) (l m : List api_Val) (hs : szs l ≤ N) (hf : fews l) (hb : l.length ≤ 65536) (hl : l.length = m.length) :
    ∀ i, i ≤ l.length → slices_EqualFunc_api_Val_api_Val_api_Val_api_Val_schema_Same_L1 l m i = some (if smes (l.drop i) (m.drop i) then .inl () else .inr ()) := by
  refine upto ?_ fun i hi ih => ?_
  · rw [slices_EqualFunc_api_Val_api_Val_api_Val_api_Val_schema_Same_L1]
    have : m.drop l.length = [] := by rw [hl]; simp
    simp [this, smes]
  · have hi2 : i < m.length := by omega
    have hm := List.getElem_mem hi
    rw [slices_EqualFunc_api_Val_api_Val_api_Val_api_Val_schema_Same_L1, wr_succ (by omega), ih, dropE hi, dropE hi2, smes]
    simp only [ltI, hi, decide_true, if_true, idx_nat, getE hi, getE hi2, bind_some', IH l[i] m[i] (by have := sz_mem hm; omega) (fews_mem hf _ hm)]
    cases sme l[i] m[i] <;> simp
theorem lenNe (l m : List api_Val) : ((l.length : Int) != (m.length : Int)) = !decide (l.length = m.length) := by
  by_cases h : l.length = m.length
  · simp [h]
  · simp [h]; omega
theorem sSm_n : ∀ (N : Nat) (a b : api_Val), sz a ≤ N → few a → schema_Same a b = some (sme a b) := by
  intro N
  induction N with
  | zero => intro v b h; rw [sz_eq] at h; omega
  | succ N IH =>
    intro a b hN hf
    obtain ⟨hl, hfs⟩ := (few_eq a).1 hf
    have hs : szs a.L ≤ N := by rw [sz_eq] at hN; omega
    rw [schema_Same, sme_eq]
    have e : slices_EqualFunc_api_Val_api_Val_api_Val_api_Val_schema_Same a.L b.L = some (smes a.L b.L) := by
      rw [slices_EqualFunc_api_Val_api_Val_api_Val_api_Val_schema_Same, lenNe]
      by_cases h : a.L.length = b.L.length
      · rw [show (0 : Int) = ((0 : Nat) : Int) from rfl, sSmL IH a.L b.L hs hfs hl h 0 (by omega)]
        cases h2 : smes a.L b.L <;> simp [h, h2]
      · have : smes a.L b.L = false := by
          cases h2 : smes a.L b.L with
          | false => rfl
          | true => exact absurd (smes_len _ _ h2) h
        simp [h, this]
    rw [e]
    by_cases h1 : a.K = b.K
    · by_cases h2 : a.S = b.S
      · by_cases h3 : a.N = b.N
        · by_cases h4 : a.B = b.B
          · simp [h1, h2, h3, h4]
          · simp [h1, h2, h3, h4]
        · simp [h1, h2, h3]
      · simp [h1, h2]
    · simp [h1]
theorem sSm (a b : api_Val) (h : few a) : schema_Same a b = some (sme a b) := sSm_n _ a b (Nat.le_refl _) h
theorem rSmL {N : Nat} (IH : ∀ a b, sz a ≤ N → few a → R16_Same a b = some (sme a b)) (a b : api_Val) (hs : szs a.L ≤ N) (hf : fews a.L) (hb : a.L.length ≤ 65536) (hl : a.L.length = b.L.length) :
    ∀ i, i ≤ a.L.length → R16_Same_L1 a b i = some (if smes (a.L.drop i) (b.L.drop i) then .inl () else .inr ()) := by
  refine upto ?_ fun i hi ih => ?_
  · rw [R16_Same_L1]
    have : b.L.drop a.L.length = [] := by rw [hl]; simp
    simp [this, smes]
  · have hi2 : i < b.L.length := by omega
    have hm := List.getElem_mem hi
    rw [R16_Same_L1, wr_succ (by omega), ih, dropE hi, dropE hi2, smes]
    simp only [ltI, hi, decide_true, if_true, idx_nat, getE hi, getE hi2, bind_some', IH a.L[i] b.L[i] (by have := sz_mem hm; omega) (fews_mem hf _ hm)]
    cases sme a.L[i] b.L[i] <;> simp
theorem rSm_n : ∀ (N : Nat) (a b : api_Val), sz a ≤ N → few a → R16_Same a b = some (sme a b) := by
  intro N
  induction N with
  | zero => intro v b h; rw [sz_eq] at h; omega
  | succ N IH =>
    intro a b hN hf
    obtain ⟨hl, hfs⟩ := (few_eq a).1 hf
    have hs : szs a.L ≤ N := by rw [sz_eq] at hN; omega
    rw [R16_Same, sme_eq, lenNe]
    by_cases h1 : a.K = b.K
    · by_cases h2 : a.S = b.S
      · by_cases h3 : a.N = b.N
        · by_cases h4 : a.B = b.B
          · by_cases h : a.L.length = b.L.length
            · rw [show (0 : Int) = ((0 : Nat) : Int) from rfl, rSmL IH a b hs hfs hl h 0 (by omega)]
              cases h5 : smes a.L b.L <;> simp [h1, h2, h3, h4, h, h5]
            · have : smes a.L b.L = false := by
                cases h5 : smes a.L b.L with
                | false => rfl
                | true => exact absurd (smes_len _ _ h5) h
              simp [h1, h2, h3, h4, h, this]
          · simp [h1, h2, h3, h4]
        · simp [h1, h2, h3]
      · simp [h1, h2]
    · simp [h1]
theorem rSm (a b : api_Val) (h : few a) : R16_Same a b = some (sme a b) := rSm_n _ a b (Nat.le_refl _) h

@[simp] theorem val_eta (v : api_Val) : api_Val.mk v.K v.S v.N v.B v.L = v := by cases v; rfl
abbrev val0 : api_Val := ⟨0, [], 0, false, []⟩
theorem cnf_len (v : api_Val) (h : cnf v = true) (hk : fieldsL v.K ≠ []) : (fieldsL v.K).length = v.L.length := by
  have h4 : v.K = 4 ∨ v.K = 5 ∨ v.K = 6 := by
    by_cases h4 : v.K = 4
    · exact .inl h4
    · by_cases h5 : v.K = 5
      · exact .inr (.inl h5)
      · by_cases h6 : v.K = 6
        · exact .inr (.inr h6)
        · exact absurd (fields_none v.K h4 h5 h6).1 hk
  rw [cnf_eq] at h
  simp only [Bool.and_eq_true] at h
  obtain ⟨-, h⟩ := h
  have hp : plainB v.K = false := by rcases h4 with e | e | e <;> rw [e] <;> rfl
  have he : (elemP v.K).2 = false := by rcases h4 with e | e | e <;> rw [e] <;> rfl
  simp only [hp, he, Bool.false_eq_true, if_false, Bool.and_eq_true, decide_eq_true_eq] at h
  exact h.1.2
theorem pair_two (p : api_Val) (hc : cnf p = true) (hk : p.K = 4) : ∃ a b, p.L = [a, b] := by
  have h5 : (fieldsL p.K).length = 2 := by rw [hk]; rfl
  have h2 := cnf_len p hc (by rw [hk]; decide)
  rw [h5] at h2
  match hl : p.L, h2 with
  | [a, b], _ => exact ⟨a, b, rfl⟩
theorem cnfA_mem (e : Int) : ∀ l : List api_Val, cnfA e l = true → ∀ v ∈ l, v.K = e ∧ cnf v = true
  | [], _, v, hv => by cases hv
  | x :: r, h, v, hv => by
    simp only [cnfA, Bool.and_eq_true, beq_iff_eq] at h
    rcases List.mem_cons.1 hv with rfl | hv
    · exact ⟨h.1.1, h.1.2⟩
    · exact cnfA_mem e r h.2 v hv
theorem cnf_pairs (v : api_Val) (hk : v.K = 8) (hc : cnf v = true) : ∀ p ∈ v.L, ∃ a b, p.L = [a, b] := by
  rw [cnf_eq] at hc
  simp only [Bool.and_eq_true] at hc
  have hp : plainB v.K = false := by rw [hk]; rfl
  have he : elemP v.K = (4, true) := by rw [hk]; rfl
  simp only [hp, he, Bool.false_eq_true, if_false, if_true, Bool.and_eq_true] at hc
  intro p hp
  obtain ⟨h1, h2⟩ := cnfA_mem 4 v.L hc.2.2 p hp
  exact pair_two p h2 h1
def findL (s : List UInt8) : List api_Val → Option (List UInt8)
  | [] => none
  | p :: r => if (p.L.getD 0 val0).S = s then some (p.L.getD 1 val0).S else findL s r
def findP (v : api_Val) (s : List UInt8) : List UInt8 × Bool := if v.K = 8 ∧ cnf v = true then match findL s v.L with | some t => (t, true) | none => ([], false) else ([], false)
theorem sFindL (v : api_Val) (s : List UInt8) (hb : v.L.length ≤ 65536) (hp : ∀ p ∈ v.L, ∃ a b, p.L = [a, b]) : ∀ i, i ≤ v.L.length → schema_Find_L1 v s i = some (match findL s (v.L.drop i) with | some t => .inr t | none => .inl ()) := by
  refine upto ?_ fun i hi ih => ?_
  · rw [schema_Find_L1]; simp [findL]
  · obtain ⟨a, b, hab⟩ := hp _ (List.getElem_mem hi)
    rw [schema_Find_L1, wr_succ (by omega), ih, dropE hi, findL]
    simp only [ltI, hi, decide_true, if_true, idx_nat, getE hi, bind_some', hab, idx_0, idx_1]
    by_cases h : a.S = s
    · simp [h]
    · simp [h]
theorem sFind (v : api_Val) (s : List UInt8) (h : few v) : schema_Find v s = some (findP v s) := by
  unfold schema_Find findP
  by_cases hk : v.K = 8
  · rw [sIs v h]
    cases hc : cnf v with
    | false => simp [hk]
    | true =>
      rw [show schema_Find_L1 v s 0 = _ from sFindL v s ((few_eq v).1 h).1 (cnf_pairs v hk hc) 0 (by omega), List.drop_zero]
      cases findL s v.L <;> simp [hk]
  · simp [hk]
theorem rFindL (v : api_Val) (s : List UInt8) (hb : v.L.length ≤ 65536) (hp : ∀ p ∈ v.L, ∃ a b, p.L = [a, b]) : ∀ i, i ≤ v.L.length → R16_Find_L1 v s i = some (match findL s (v.L.drop i) with | some t => .inr t | none => .inl ()) := by
  refine upto ?_ fun i hi ih => ?_
  · rw [R16_Find_L1]; simp [findL]
  · obtain ⟨a, b, hab⟩ := hp _ (List.getElem_mem hi)
    rw [R16_Find_L1, wr_succ (by omega), ih, dropE hi, findL]
    simp only [ltI, hi, decide_true, if_true, idx_nat, getE hi, bind_some', hab, idx_0, idx_1]
    by_cases h : a.S = s
    · simp [h]
    · simp [h]
theorem rFind (v : api_Val) (s : List UInt8) (h : few v) : R16_Find v s = some (findP v s) := by
  unfold R16_Find findP
  by_cases hk : v.K = 8
  · rw [rIs v h]
    cases hc : cnf v with
    | false => simp [hk]
    | true =>
      rw [show R16_Find_L1 v s 0 = _ from rFindL v s ((few_eq v).1 h).1 (cnf_pairs v hk hc) 0 (by omega), List.drop_zero]
      cases findL s v.L <;> simp [hk]
  · simp [hk]

theorem few_mk (k : Int) (s : List UInt8) (n : Int) (b : Bool) (l : List api_Val) : few ⟨k, s, n, b, l⟩ ↔ l.length ≤ 65536 ∧ fews l := by rw [few]
def light : Nat → api_Val → api_Val
  | 0, v => ⟨v.K, v.S.take 60, v.N, v.B, []⟩
  | d + 1, v => ⟨v.K, v.S.take 60, v.N, v.B, (v.L.take 7).map (light d)⟩
def lights : Nat → List api_Val → List api_Val
  | 0, _ => []
  | d + 1, l => (l.take 7).map (light d)
theorem light_eq (d : Nat) (v : api_Val) : light d v = ⟨v.K, v.S.take 60, v.N, v.B, lights d v.L⟩ := by cases d <;> rfl
theorem light_few : ∀ (d : Nat) (v : api_Val), few (light d v)
  | 0, v => by rw [light, few_mk]; exact ⟨by simp, trivial⟩
  | d + 1, v => by
    rw [light, few_mk]
    refine ⟨by simp; omega, fews_of fun x hx => ?_⟩
    obtain ⟨y, -, rfl⟩ := List.mem_map.1 hx
    exact light_few d y
theorem lightL (d : Nat) (IH : ∀ v, nunciolaw16_Light v d = some (light d v)) (hd : d ≤ 1000) (v : api_Val) (x1 : List UInt8) (m : Nat) (hm : m = min v.L.length 7) : ∀ i, i ≤ m → ∀ o : List api_Val, o = (v.L.take i).map (light d) →
    nunciolaw16_Light_L1 v ((d + 1 : Nat) : Int) x1 i o = some ((v.L.take m).map (light d)) := by
  have hmr : m = (List.range m).length := by simp
  intro i hi
  revert i
  rw [hmr]
  refine upto (φ := fun i => ∀ o : List api_Val, o = (v.L.take i).map (light d) → nunciolaw16_Light_L1 v ((d + 1 : Nat) : Int) x1 i o = some ((v.L.take (List.range m).length).map (light d))) ?_ fun i hi ih => ?_
  · intro o ho
    rw [← hmr]
    rw [← hmr] at ho
    rw [nunciolaw16_Light_L1]
    by_cases h1 : m < v.L.length
    · have h7 : m = 7 := by omega
      subst h7
      simp [ho, h1]
    · simp [ho, h1]
  · intro o ho
    rw [← hmr] at hi
    have h1 : i < v.L.length := by omega
    have h2 : i < 7 := by omega
    rw [nunciolaw16_Light_L1, wr_succ (by omega)]
    have e1 : wr (((d + 1 : Nat) : Int) - 1) = (d : Int) := by
      have : ((d + 1 : Nat) : Int) - 1 = (d : Int) := by omega
      rw [this, wr_in (by omega) (by omega)]
    have e2 : decide ((i : Int) < 7) = true := by simp; omega
    have e3 : decide (((d + 1 : Nat) : Int) > 0) = true := decide_eq_true (by omega)
    simp only [ltI, h1, decide_true, if_true, e2, e3, bind_some', idx_nat, getE h1, e1, IH]
    rw [appL_ok (by rw [ho]; simp; omega) (by rw [ho]; simp; omega), bind_some']
    refine ih _ ?_
    rw [ho, List.take_succ_eq_append_getElem h1, List.map_append]; rfl
theorem cut60 (s : List UInt8) : cutL s 0 (if 60 < (s.length : Int) then 60 else (s.length : Int)) = some (s.take 60) := by
  by_cases h : 60 < (s.length : Int)
  · rw [if_pos h, cutL_ok (by omega) (by omega) (by omega)]; rfl
  · rw [if_neg h, cutL_ok (by omega) (by omega) (by omega)]
    simp only [Int.toNat_natCast, List.take_length, Int.toNat_zero, List.drop_zero]
    rw [List.take_of_length_le (by omega)]
theorem lightP : ∀ (d : Nat), d ≤ 1000 → ∀ v, nunciolaw16_Light v d = some (light d v)
  | 0, _, v => by
    rw [nunciolaw16_Light, cut60, bind_some', nunciolaw16_Light_L1]
    simp [light]
  | d + 1, hd, v => by
    have := lightL d (lightP d (by omega)) (by omega) v (v.S.take 60) _ rfl 0 (by omega) [] rfl
    rw [nunciolaw16_Light, cut60, bind_some']
    rw [show ((0 : Nat) : Int) = 0 from rfl] at this
    rw [this, bind_some', light]
    congr 2
    by_cases h : v.L.length ≤ 7
    · rw [Nat.min_eq_left h, List.take_of_length_le (Nat.le_refl _), List.take_of_length_le h]
    · rw [Nat.min_eq_right (by omega)]
theorem light4 (v : api_Val) : nunciolaw16_Light v 4 = some (light 4 v) := lightP 4 (by decide) v

abbrev t1 : api_Val := ⟨1, [], 0, false, []⟩
end Go.Proofs.YteahaflhihioaaaGreatDoor
end

section
namespace Go.Proofs.YteahaflhihioaaaGreatDoor
open Go.RowKit

def contB (c : UInt8) : Bool := decide (128 ≤ c.toNat) && decide (c.toNat < 192)
def runeB (n : Nat) : Bool := decide (n ≤ 1114111) && !(decide (55296 ≤ n) && decide (n ≤ 57343))
/-- The rune at the head, and how many bytes it has. -/
def nextC (c : UInt8) (r : List UInt8) : Nat × Nat :=
    if c.toNat < 128 then (c.toNat, 1)
    else if 192 ≤ c.toNat ∧ c.toNat < 224 then
      match r with
      | c1 :: _ => if contB c1 = true ∧ 128 ≤ (c.toNat - 192) * 64 + (c1.toNat - 128) then ((c.toNat - 192) * 64 + (c1.toNat - 128), 2) else (65533, 1)
      | _ => (65533, 1)
    else if 224 ≤ c.toNat ∧ c.toNat < 240 then
      match r with
      | c1 :: c2 :: _ => if contB c1 = true ∧ contB c2 = true ∧ 2048 ≤ ((c.toNat - 224) * 64 + (c1.toNat - 128)) * 64 + (c2.toNat - 128) ∧ runeB (((c.toNat - 224) * 64 + (c1.toNat - 128)) * 64 + (c2.toNat - 128)) = true then (((c.toNat - 224) * 64 + (c1.toNat - 128)) * 64 + (c2.toNat - 128), 3) else (65533, 1)
      | _ => (65533, 1)
    else if 240 ≤ c.toNat ∧ c.toNat < 248 then
      match r with
      | c1 :: c2 :: c3 :: _ => if contB c1 = true ∧ contB c2 = true ∧ contB c3 = true ∧ 65536 ≤ (((c.toNat - 240) * 64 + (c1.toNat - 128)) * 64 + (c2.toNat - 128)) * 64 + (c3.toNat - 128) ∧ runeB ((((c.toNat - 240) * 64 + (c1.toNat - 128)) * 64 + (c2.toNat - 128)) * 64 + (c3.toNat - 128)) = true then ((((c.toNat - 240) * 64 + (c1.toNat - 128)) * 64 + (c2.toNat - 128)) * 64 + (c3.toNat - 128), 4) else (65533, 1)
      | _ => (65533, 1)
    else (65533, 1)
def nextP : List UInt8 → Nat × Nat
  | [] => (0, 0)
  | c :: r => nextC c r
theorem i32_in {n : Int} (h1 : -2147483648 ≤ n) (h2 : n ≤ 2147483647) : IntKind.i32.wrap n = n := by
  simp [IntKind.wrap, IntKind.bits, IntKind.signed]
  omega
theorem u8_in {n : Int} (h1 : 0 ≤ n) (h2 : n ≤ 255) : IntKind.u8.wrap n = n := by
  simp [IntKind.wrap, IntKind.bits, IntKind.signed]
  omega
theorem and63 : ∀ c : Fin 256, bits .and .u8 ((c.1 : Nat) : Int) 63 = ((c.1 % 64 : Nat) : Int) := by decide +kernel
theorem and192 : ∀ c : Fin 256, (bits .and .u8 ((c.1 : Nat) : Int) 192 != 128) = !(decide (128 ≤ c.1) && decide (c.1 < 192)) := by decide +kernel
theorem and31 : ∀ c : Fin 256, bits .and .u8 ((c.1 : Nat) : Int) 31 = ((c.1 % 32 : Nat) : Int) := by decide +kernel
theorem and15 : ∀ c : Fin 256, bits .and .u8 ((c.1 : Nat) : Int) 15 = ((c.1 % 16 : Nat) : Int) := by decide +kernel
theorem and7 : ∀ c : Fin 256, bits .and .u8 ((c.1 : Nat) : Int) 7 = ((c.1 % 8 : Nat) : Int) := by decide +kernel
theorem or64 (a b : Nat) (ha : a < 1000000) (hb : b < 64) : bits .or .i32 (IntKind.i32.wrap ((a : Int) * 2 ^ (min (6 : Int).toNat (IntKind.i32.bits)))) (IntKind.i32.wrap (b : Int)) = ((a * 64 + b : Nat) : Int) := by
  have e1 : IntKind.i32.wrap ((a : Int) * 2 ^ (min (6 : Int).toNat (IntKind.i32.bits))) = ((a * 64 : Nat) : Int) := by
    have : (min (6 : Int).toNat (IntKind.i32.bits)) = 6 := rfl
    rw [this, i32_in (by omega) (by omega)]; omega
  rw [e1, i32_in (by omega) (by omega)]
  have e2 : (2 : Nat) ^ 6 * a + b = 2 ^ 6 * a ||| b := Nat.two_pow_add_eq_or_of_lt (by omega) a
  have e3 : a * 64 ||| b = a * 64 + b := by
    have : (2 : Nat) ^ 6 * a = a * 64 := by omega
    rw [this] at e2; omega
  show IntKind.i32.wrap ((BitVec.ofInt 32 ((a * 64 : Nat) : Int) ||| BitVec.ofInt 32 (b : Int)).toNat : Int) = _
  rw [BitVec.toNat_or, BitVec.ofInt_natCast, BitVec.ofInt_natCast, BitVec.toNat_ofNat, BitVec.toNat_ofNat, Nat.mod_eq_of_lt (by omega), Nat.mod_eq_of_lt (by omega), e3, i32_in (by omega) (by omega)]
theorem b63 (c : UInt8) : bits .and .u8 (c.toNat : Int) 63 = ((c.toNat % 64 : Nat) : Int) := and63 ⟨c.toNat, c.toNat_lt⟩
theorem b192 (c : UInt8) : (bits .and .u8 (c.toNat : Int) 192 != 128) = !contB c := and192 ⟨c.toNat, c.toNat_lt⟩
theorem b31 (c : UInt8) : bits .and .u8 (c.toNat : Int) 31 = ((c.toNat % 32 : Nat) : Int) := and31 ⟨c.toNat, c.toNat_lt⟩
theorem b15 (c : UInt8) : bits .and .u8 (c.toNat : Int) 15 = ((c.toNat % 16 : Nat) : Int) := and15 ⟨c.toNat, c.toNat_lt⟩
theorem b7 (c : UInt8) : bits .and .u8 (c.toNat : Int) 7 = ((c.toNat % 8 : Nat) : Int) := and7 ⟨c.toNat, c.toNat_lt⟩
theorem cont_mod {c : UInt8} (h : contB c = true) : c.toNat % 64 = c.toNat - 128 := by
  unfold contB at h
  simp at h
  omega
/-- What follows: so many bytes. -/
def tailP : Nat → List UInt8 → Nat → Option Nat
  | 0, _, v => some v
  | _ + 1, [], _ => none
  | m + 1, c :: r, v => if contB c = true then tailP m r (v * 64 + (c.toNat - 128)) else none
set_option maxRecDepth 20000 in
theorem tTailL (l : List UInt8) (m : Nat) (hm : m ≤ l.length) (hm3 : m ≤ 3) : ∀ (d k v : Nat), k + d = m → ((k = 0 → v < 64) ∧ (k ≤ 1 → v < 4096) ∧ (k ≤ 2 → v < 262144)) →
    utf_tail_L1 l m v k = some (match tailP d (l.drop k) v with | some n => .inl (n : Int) | none => .inr ()) := by
  intro d
  induction d with
  | zero =>
    intro k v hk _
    rw [utf_tail_L1, ltI, decide_eq_false (by omega : ¬ k < m)]
    rfl
  | succ d ih =>
    intro k v hk hv
    have hkl : k < l.length := by omega
    have : decide ((k : Int) < (m : Int)) = true := decide_eq_true (by omega)
    rw [utf_tail_L1]
    simp only [this, if_true, idx_nat, getE hkl, bind_some', b192, b63]
    rw [or64 v _ (by omega) (Nat.mod_lt _ (by omega)), wr_succ (by omega), dropE hkl]
    unfold tailP
    cases hc : contB l[k] with
    | false => rfl
    | true =>
      rw [cont_mod hc]
      have hlt : l[k].toNat - 128 < 64 := by unfold contB at hc; simp at hc; omega
      have hv2 : (k + 1 = 0 → v * 64 + (l[k].toNat - 128) < 64) ∧ (k + 1 ≤ 1 → v * 64 + (l[k].toNat - 128) < 4096) ∧ (k + 1 ≤ 2 → v * 64 + (l[k].toNat - 128) < 262144) := by omega
      simp only [Bool.not_true, Bool.false_eq_true, if_false, if_true]
      exact ih (k + 1) _ (by omega) hv2
theorem tTail (l : List UInt8) (m v : Nat) (hm3 : m ≤ 3) (hv : v < 64) : utf_tail l v m = some (match (if l.length < m then none else tailP m l v) with | some n => ((n : Int), true) | none => (0, false)) := by
  rw [utf_tail, ltI]
  by_cases h : l.length < m
  · rw [decide_eq_true h, if_pos h]; rfl
  · rw [decide_eq_false h, if_neg h]
    have := tTailL l m (by omega) hm3 m 0 v (by omega) (by omega)
    rw [List.drop_zero] at this
    rw [show (0 : Int) = ((0 : Nat) : Int) from rfl, this]
    cases tailP m l v <;> rfl
theorem tIsR (n : Nat) : utf_is (n : Int) = some (runeB n) := by
  have a : decide ((n : Int) ≥ 0) = true := decide_eq_true (by omega)
  have b : decide ((n : Int) ≤ 1114111) = decide (n ≤ 1114111) := by
    by_cases h : n ≤ 1114111
    · rw [decide_eq_true h, decide_eq_true (by omega)]
    · rw [decide_eq_false h, decide_eq_false (by omega)]
  rw [utf_is, a, b, runeB]
  by_cases h1 : n < 55296
  · rw [decide_eq_true (show (n : Int) < 55296 by omega), decide_eq_true (show n ≤ 1114111 by omega), decide_eq_false (show ¬ 55296 ≤ n by omega)]; rfl
  · rw [decide_eq_false (show ¬ (n : Int) < 55296 by omega), decide_eq_true (show 55296 ≤ n by omega)]
    by_cases h2 : n ≤ 57343
    · rw [decide_eq_false (show ¬ (n : Int) > 57343 by omega), decide_eq_true h2, decide_eq_true (show n ≤ 1114111 by omega)]; rfl
    · rw [decide_eq_true (show (n : Int) > 57343 by omega), decide_eq_false h2]
      cases decide (n ≤ 1114111) <;> rfl
theorem rIsR (n : Nat) : R02_Rune (n : Int) = some (runeB n) := by
  have a : decide ((n : Int) ≥ 0) = true := decide_eq_true (by omega)
  have b : decide ((n : Int) ≤ 1114111) = decide (n ≤ 1114111) := by
    by_cases h : n ≤ 1114111
    · rw [decide_eq_true h, decide_eq_true (by omega)]
    · rw [decide_eq_false h, decide_eq_false (by omega)]
  have c : decide ((n : Int) ≥ 55296) = decide (55296 ≤ n) := by
    by_cases h : 55296 ≤ n
    · rw [decide_eq_true h, decide_eq_true (by omega)]
    · rw [decide_eq_false h, decide_eq_false (by omega)]
  have d : decide ((n : Int) ≤ 57343) = decide (n ≤ 57343) := by
    by_cases h : n ≤ 57343
    · rw [decide_eq_true h, decide_eq_true (by omega)]
    · rw [decide_eq_false h, decide_eq_false (by omega)]
  rw [R02_Rune, a, b, c, d, runeB]
  cases decide (n ≤ 1114111) <;> cases decide (55296 ≤ n) <;> cases decide (n ≤ 57343) <;> rfl
theorem ltC (c : UInt8) (k : Nat) : decide ((c.toNat : Int) < (k : Int)) = decide (c.toNat < k) := ltI _ _
theorem geC (c : UInt8) (k : Nat) : decide ((c.toNat : Int) ≥ (k : Int)) = decide (k ≤ c.toNat) := by
  by_cases h : k ≤ c.toNat
  · rw [decide_eq_true h, decide_eq_true (by omega)]
  · rw [decide_eq_false h, decide_eq_false (by omega)]
/-- What Next makes of a tail. -/
def endP (o : Option Nat) (least m : Nat) : Nat × Nat := match o with
  | some n => if least ≤ n ∧ runeB n = true then (n, m + 1) else (65533, 1)
  | none => (65533, 1)
set_option maxRecDepth 20000 in
theorem tNext (s : List UInt8) (k : Nat) (hk : k < s.length) (hs : s.length < 9223372036854775807) : utf_Next s k = some (((nextP (s.drop k)).1 : Int), ((nextP (s.drop k)).2 : Int)) := by
  have d1 : decide ((k : Int) < 0) = false := decide_eq_false (by omega)
  have d2 : decide ((k : Int) ≥ (s.length : Int)) = false := decide_eq_false (by omega)
  have hc := s[k].toNat_lt
  have hr : cutL s (wr ((k : Int) + 1)) (s.length : Int) = some (s.drop (k + 1)) := by
    rw [wr_succ (by omega), cutL_ok (by omega) (by omega) (by omega)]
    simp
  rw [utf_Next, d1, d2, hr, dropE hk]
  have l128 := ltC s[k] 128
  have g192 := geC s[k] 192
  have l224 := ltC s[k] 224
  have g224 := geC s[k] 224
  have l240 := ltC s[k] 240
  have g240 := geC s[k] 240
  have l248 := ltC s[k] 248
  have b1 : ∀ a b : Bool, (if a = true then some b else some false : Option Bool) = some (a && b) := fun a b => by cases a <;> rfl
  simp only [Bool.false_eq_true, if_false, bind_some', idx_nat, getE hk]
  rw [show (128 : Int) = ((128 : Nat) : Int) from rfl, show (192 : Int) = ((192 : Nat) : Int) from rfl, show (224 : Int) = ((224 : Nat) : Int) from rfl, show (240 : Int) = ((240 : Nat) : Int) from rfl, show (248 : Int) = ((248 : Nat) : Int) from rfl, l128, g192, l224, g224, l240, g240, l248]
  simp only [b1, bind_some']
  rw [nextP]
  unfold nextC
  have fin : ∀ (v least m : Nat), m ≤ 3 → v < 64 → (utf_tail (s.drop (k + 1)) (v : Int) (m : Int) >>= fun x10 =>
      (if (!x10.2) = true then some true else if decide (x10.1 < (least : Int)) = true then some true else utf_is x10.1 >>= fun x12 => some (!x12) : Option Bool) >>= fun o11 =>
      if o11 = true then some ((65533 : Int), (1 : Int)) else some (x10.1, wr ((m : Int) + 1))) =
      some (((endP (if (s.drop (k + 1)).length < m then none else tailP m (s.drop (k + 1)) v) least m).1 : Int), ((endP (if (s.drop (k + 1)).length < m then none else tailP m (s.drop (k + 1)) v) least m).2 : Int)) := fun v least m hm hv => by
    rw [tTail _ m v hm hv]
    cases (if (s.drop (k + 1)).length < m then none else tailP m (s.drop (k + 1)) v) with
    | none => rfl
    | some n =>
      simp only [bind_some', Bool.not_true, Bool.false_eq_true, if_false, ltI, tIsR, endP]
      by_cases h1 : n < least
      · rw [decide_eq_true h1, if_neg (fun h => absurd h.1 (by omega) : ¬ (least ≤ n ∧ runeB n = true))]; rfl
      · rw [decide_eq_false h1]
        cases hrn : runeB n with
        | true => rw [if_pos (⟨by omega, rfl⟩ : least ≤ n ∧ true = true), wr_succ (by omega)]; rfl
        | false => rw [if_neg (fun h => by cases h.2 : ¬ (least ≤ n ∧ false = true))]; rfl
  by_cases h1 : s[k].toNat < 128
  · rw [decide_eq_true h1, if_pos h1]
    simp only [if_true, bind_some']
    rw [i32_in (by omega) (by omega)]; rfl
  rw [decide_eq_false h1, if_neg h1]
  simp only [Bool.false_eq_true, if_false]
  have cc : ∀ c : UInt8, contB c = true → c.toNat - 128 < 64 := fun c h => by unfold contB at h; simp at h; omega
  by_cases h2 : 192 ≤ s[k].toNat ∧ s[k].toNat < 224
  · rw [decide_eq_true h2.1, decide_eq_true h2.2, if_pos h2, b31]
    simp only [Bool.and_true, if_true, bind_some']
    rw [i32_in (by omega) (by omega)]
    have f := fin (s[k].toNat % 32) 128 1 (by omega) (by omega)
    rw [show ((1 : Nat) : Int) = 1 from rfl] at f
    rw [f]
    have e : s[k].toNat % 32 = s[k].toNat - 192 := by omega
    rw [e]
    cases s.drop (k + 1) with
    | nil => rfl
    | cons c1 r1 =>
      simp only [List.length_cons, if_neg (by omega : ¬ r1.length + 1 < 1), tailP]
      cases h : contB c1 with
      | false => rfl
      | true =>
        have := cc c1 h
        have hr : runeB ((s[k].toNat - 192) * 64 + (c1.toNat - 128)) = true := by unfold runeB; rw [decide_eq_true (by omega), decide_eq_false (by omega)]; rfl
        simp only [if_true, endP, hr, and_true, true_and]
  rw [if_neg h2]
  have d2 : (decide (192 ≤ s[k].toNat) && decide (s[k].toNat < 224)) = false := by
    rw [Bool.and_eq_false_iff]
    by_cases h : 192 ≤ s[k].toNat
    · exact .inr (decide_eq_false (by omega))
    · exact .inl (decide_eq_false h)
  rw [d2]
  simp only [Bool.false_eq_true, if_false]
  by_cases h3 : 224 ≤ s[k].toNat ∧ s[k].toNat < 240
  · rw [decide_eq_true h3.1, decide_eq_true h3.2, if_pos h3, b15]
    simp only [Bool.and_true, if_true, bind_some']
    rw [i32_in (by omega) (by omega)]
    have f := fin (s[k].toNat % 16) 2048 2 (by omega) (by omega)
    rw [show ((2 : Nat) : Int) = 2 from rfl, show ((2048 : Nat) : Int) = 2048 from rfl] at f
    rw [f]
    have e : s[k].toNat % 16 = s[k].toNat - 224 := by omega
    rw [e]
    match s.drop (k + 1) with
    | [] => rfl
    | [c1] => rfl
    | c1 :: c2 :: r1 =>
      simp only [List.length_cons, if_neg (by omega : ¬ r1.length + 1 + 1 < 2), tailP]
      cases h : contB c1 with
      | false => rfl
      | true =>
        cases h' : contB c2 with
        | false => simp [endP]
        | true => simp only [if_true, endP, true_and]
  rw [if_neg h3]
  have d3 : (decide (224 ≤ s[k].toNat) && decide (s[k].toNat < 240)) = false := by
    rw [Bool.and_eq_false_iff]
    by_cases h : 224 ≤ s[k].toNat
    · exact .inr (decide_eq_false (by omega))
    · exact .inl (decide_eq_false h)
  rw [d3]
  simp only [Bool.false_eq_true, if_false]
  by_cases h4 : 240 ≤ s[k].toNat ∧ s[k].toNat < 248
  · rw [decide_eq_true h4.1, decide_eq_true h4.2, if_pos h4, b7]
    simp only [Bool.and_true, if_true, bind_some']
    rw [i32_in (by omega) (by omega)]
    have f := fin (s[k].toNat % 8) 65536 3 (by omega) (by omega)
    rw [show ((3 : Nat) : Int) = 3 from rfl, show ((65536 : Nat) : Int) = 65536 from rfl] at f
    rw [f]
    have e : s[k].toNat % 8 = s[k].toNat - 240 := by omega
    rw [e]
    match s.drop (k + 1) with
    | [] => rfl
    | [c1] => rfl
    | [c1, c2] => rfl
    | c1 :: c2 :: c3 :: r1 =>
      simp only [List.length_cons, if_neg (by omega : ¬ r1.length + 1 + 1 + 1 < 3), tailP]
      cases h : contB c1 with
      | false => rfl
      | true =>
        cases h' : contB c2 with
        | false => simp [endP]
        | true =>
          cases h'' : contB c3 with
          | false => simp [endP]
          | true => simp only [if_true, endP, true_and]
  rw [if_neg h4]
  have d4 : (decide (240 ≤ s[k].toNat) && decide (s[k].toNat < 248)) = false := by
    rw [Bool.and_eq_false_iff]
    by_cases h : 240 ≤ s[k].toNat
    · exact .inr (decide_eq_false (by omega))
    · exact .inl (decide_eq_false h)
  rw [d4]
  rfl
theorem nextP_size (l : List UInt8) (h : l ≠ []) : 1 ≤ (nextP l).2 ∧ (nextP l).2 ≤ l.length := by
  cases l with
  | nil => exact absurd rfl h
  | cons c r =>
    rw [nextP]
    unfold nextC
    split
    · simp
    · split
      · split
        · split <;> simp
        · simp
      · split
        · split
          · split <;> simp
          · simp
        · split
          · split
            · split <;> simp
            · simp
          · simp
end Go.Proofs.YteahaflhihioaaaGreatDoor
end

section
namespace Go.Proofs.YteahaflhihioaaaGreatDoor
open Go.RowKit

/-- A text's steps: the bytes of each. -/
def cutsF : Nat → List UInt8 → List (List UInt8)
  | 0, _ => []
  | n + 1, s => if s = [] then [] else s.take (nextP s).2 :: cutsF n (s.drop (nextP s).2)
def cutsP (s : List UInt8) : List (List UInt8) := cutsF s.length s
theorem cutsF_nil : ∀ n, cutsF n [] = []
  | 0 => rfl
  | _ + 1 => by rw [cutsF, if_pos rfl]
theorem cutsF_fuel : ∀ (n m : Nat) (s : List UInt8), s.length ≤ n → s.length ≤ m → cutsF n s = cutsF m s
  | 0, m, s, h, _ => by
    have : s = [] := List.length_eq_zero_iff.1 (by omega)
    subst this
    rw [cutsF_nil, cutsF_nil]
  | n + 1, 0, s, _, h => by
    have : s = [] := List.length_eq_zero_iff.1 (by omega)
    subst this
    rw [cutsF_nil, cutsF_nil]
  | n + 1, m + 1, s, h1, h2 => by
    rw [cutsF, cutsF]
    by_cases h : s = []
    · rw [if_pos h, if_pos h]
    · rw [if_neg h, if_neg h]
      have := nextP_size s h
      rw [cutsF_fuel n m _ (by rw [List.length_drop]; omega) (by rw [List.length_drop]; omega)]
theorem cutsP_nil : cutsP [] = [] := rfl
theorem cutsP_cons (s : List UInt8) (h : s ≠ []) : cutsP s = s.take (nextP s).2 :: cutsP (s.drop (nextP s).2) := by
  have hs := nextP_size s h
  unfold cutsP
  conv => lhs; rw [show s.length = (s.length - 1) + 1 by omega]
  rw [cutsF, if_neg h, cutsF_fuel _ (s.drop (nextP s).2).length _ (by rw [List.length_drop]; omega) (Nat.le_refl _)]
theorem cutsF_flat : ∀ (n : Nat) (s : List UInt8), s.length ≤ n → (cutsF n s).flatten = s
  | 0, s, h => by
    have : s = [] := List.length_eq_zero_iff.1 (by omega)
    subst this; rfl
  | n + 1, s, h => by
    rw [cutsF]
    by_cases hs : s = []
    · rw [if_pos hs, hs]; rfl
    · rw [if_neg hs, List.flatten_cons, cutsF_flat n _ (by have := nextP_size s hs; rw [List.length_drop]; omega), List.take_append_drop]
theorem cutsP_flat (s : List UInt8) : (cutsP s).flatten = s := cutsF_flat _ s (Nat.le_refl _)
theorem cutsF_len : ∀ (n : Nat) (s : List UInt8), s.length ≤ n → (cutsF n s).length ≤ s.length
  | 0, s, h => by simp [cutsF]
  | n + 1, s, h => by
    rw [cutsF]
    by_cases hs : s = []
    · rw [if_pos hs]; simp
    · rw [if_neg hs, List.length_cons]
      have h1 := nextP_size s hs
      have h2 := cutsF_len n (s.drop (nextP s).2) (by rw [List.length_drop]; omega)
      rw [List.length_drop] at h2
      omega
theorem cutsP_len (s : List UInt8) : (cutsP s).length ≤ s.length := cutsF_len _ s (Nat.le_refl _)
/-- The places behind the steps. -/
def posL : Nat → List (List UInt8) → List Int
  | _, [] => []
  | k, c :: r => ((k + c.length : Nat) : Int) :: posL (k + c.length) r
theorem drop_ne {s : List UInt8} {k : Nat} (h : k < s.length) : s.drop k ≠ [] := fun e => by
  have := congrArg List.length e
  rw [List.length_drop, List.length_nil] at this
  omega
theorem bStepsL (s : List UInt8) (hs : s.length < 9000000000000) : ∀ n k, k ≤ s.length → s.length - k ≤ n → built_steps_1_L1 s k = some (posL k (cutsP (s.drop k)), ()) := by
  intro n
  induction n with
  | zero =>
    intro k h1 h2
    have hk : k = s.length := by omega
    subst hk
    rw [built_steps_1_L1, ltI, decide_eq_false (Nat.lt_irrefl _), List.drop_length]
    rfl
  | succ n ih =>
    intro k h1 h2
    by_cases hk : k < s.length
    · have hne := drop_ne hk
      have hz := nextP_size _ hne
      rw [List.length_drop] at hz
      rw [built_steps_1_L1, ltI, decide_eq_true hk, if_pos rfl, tNext s k hk (by omega), bind_some']
      have e : wr ((k : Int) + ((nextP (s.drop k)).2 : Int)) = ((k + (nextP (s.drop k)).2 : Nat) : Int) := by rw [wr_in (by omega) (by omega)]; rfl
      simp only [e]
      rw [ih (k + (nextP (s.drop k)).2) (by omega) (by omega), bind_some', cutsP_cons _ hne, posL, List.length_take, List.length_drop, Nat.min_eq_left hz.2, List.drop_drop]
    · have hk : k = s.length := by omega
      subst hk
      rw [built_steps_1_L1, ltI, decide_eq_false (Nat.lt_irrefl _), List.drop_length]
      rfl
theorem bSteps (s : List UInt8) (hs : s.length < 9000000000000) : built_steps_1 s = some (posL 0 (cutsP s), ()) := by
  unfold built_steps_1
  have := bStepsL s hs s.length 0 (Nat.zero_le _) (by omega)
  rw [show ((0 : Nat) : Int) = 0 from rfl, List.drop_zero] at this
  rw [this, bind_some', bind_some', List.append_nil]
theorem bCutL (x : List UInt8) : ∀ (cs : List (List UInt8)) (k n : Nat), n < 9223372036854775808 → ∃ o, built_cut_L1 x (posL k cs) n k = some o ∧
    (match o with | .inl y => y.2 | .inr y => y.2) = ((k + ((cs.take n).flatten).length : Nat) : Int)
  | [], k, n, hn => by
    refine ⟨.inl (n, k), ?_, by simp⟩
    rw [posL, built_cut_L1]
  | c :: r, k, 0, hn => by
    refine ⟨.inr (-1, k), ?_, by simp⟩
    rw [posL, built_cut_L1]
    rfl
  | c :: r, k, n + 1, hn => by
    obtain ⟨o, h1, h2⟩ := bCutL x r (k + c.length) n (by omega)
    refine ⟨o, ?_, by rw [h2, List.take_succ_cons, List.flatten_cons, List.length_append]; congr 1; omega⟩
    rw [posL, built_cut_L1]
    have e : wr (((n + 1 : Nat) : Int) - 1) = (n : Int) := by rw [wr_in (by omega) (by omega)]; omega
    rw [e, decide_eq_false (by omega)]
    exact h1
theorem bCut (s : List UInt8) (hs : s.length < 9000000000000) (n : Nat) (hn : n < 9223372036854775808) : built_cut s n = some ((((cutsP s).take n).flatten.length : Nat) : Int) := by
  unfold built_cut built_steps
  rw [bind_some', bSteps s hs, bind_some']
  obtain ⟨o, h1, h2⟩ := bCutL s (cutsP s) 0 n hn
  rw [show ((0 : Nat) : Int) = 0 from rfl] at h1
  rw [Nat.zero_add] at h2
  simp only [h1, bind_some']
  rw [← h2]
  cases o <;> rfl
theorem uAllL (s : List UInt8) (hs : s.length < 9000000000000) : ∀ n k, k ≤ s.length → s.length - k ≤ n → ∃ out, utf_all_1_L1 s k = some (out, ()) ∧ out.length = (cutsP (s.drop k)).length := by
  intro n
  induction n with
  | zero =>
    intro k h1 h2
    have hk : k = s.length := by omega
    subst hk
    refine ⟨[], ?_, by rw [List.drop_length]; rfl⟩
    rw [utf_all_1_L1, ltI, decide_eq_false (Nat.lt_irrefl _)]
    rfl
  | succ n ih =>
    intro k h1 h2
    by_cases hk : k < s.length
    · have hne := drop_ne hk
      have hz := nextP_size _ hne
      rw [List.length_drop] at hz
      have e : wr ((k : Int) + ((nextP (s.drop k)).2 : Int)) = ((k + (nextP (s.drop k)).2 : Nat) : Int) := by rw [wr_in (by omega) (by omega)]; rfl
      obtain ⟨out, h3, h4⟩ := ih (k + (nextP (s.drop k)).2) (by omega) (by omega)
      refine ⟨(((nextP (s.drop k)).1 : Int), ((nextP (s.drop k)).2 : Int)) :: out, ?_, ?_⟩
      · rw [utf_all_1_L1, ltI, decide_eq_true hk, if_pos rfl, tNext s k hk (by omega), bind_some']
        simp only [e, h3, bind_some']
      · rw [List.length_cons, h4, cutsP_cons _ hne, List.length_cons, List.drop_drop]
    · have hk : k = s.length := by omega
      subst hk
      refine ⟨[], ?_, by rw [List.drop_length]; rfl⟩
      rw [utf_all_1_L1, ltI, decide_eq_false (Nat.lt_irrefl _)]
      rfl
theorem uCountL (x : List UInt8) : ∀ (l : List (Int × Int)) (n : Nat), n + l.length < 9000000000000 → utf_Count_L1 x l n = some ((n + l.length : Nat) : Int)
  | [], n, _ => by rw [utf_Count_L1]; rfl
  | a :: r, n, h => by
    rw [List.length_cons] at h
    rw [utf_Count_L1]
    rw [wr_succ (by omega), uCountL x r (n + 1) (by omega), List.length_cons]
    congr 2; omega
theorem uCount (s : List UInt8) (hs : s.length < 9000000000000) : utf_Count s = some ((cutsP s).length : Int) := by
  unfold utf_Count utf_all utf_all_1
  rw [bind_some']
  obtain ⟨out, h1, h2⟩ := uAllL s hs s.length 0 (Nat.zero_le _) (by omega)
  rw [show ((0 : Nat) : Int) = 0 from rfl] at h1
  rw [List.drop_zero] at h2
  simp only [h1, bind_some', List.append_nil]
  have := cutsP_len s
  have h3 := uCountL s out 0 (by omega)
  rw [show ((0 : Nat) : Int) = 0 from rfl] at h3
  simp only [h3, bind_some', Nat.zero_add, h2]
theorem take_cuts (s : List UInt8) (n : Nat) : s.take ((cutsP s).take n).flatten.length = ((cutsP s).take n).flatten := by
  have h := cutsP_flat s
  conv => lhs; arg 2; rw [← h, ← List.take_append_drop n (cutsP s), List.flatten_append]
  rw [List.take_left']
  rfl
theorem drop_cuts (s : List UInt8) (n : Nat) : s.drop ((cutsP s).take n).flatten.length = ((cutsP s).drop n).flatten := by
  have h := cutsP_flat s
  conv => lhs; arg 2; rw [← h, ← List.take_append_drop n (cutsP s), List.flatten_append]
  rw [List.drop_left']
  rfl
end Go.Proofs.YteahaflhihioaaaGreatDoor
end

section
namespace Go.Proofs.YteahaflhihioaaaGreatDoor
open Go.RowKit

abbrev numV (n : Int) : api_Val := ⟨2, [], n, false, []⟩
abbrev txtV (s : List UInt8) : api_Val := ⟨1, s, 0, false, []⟩
abbrev truV (b : Bool) : api_Val := ⟨3, [], 0, b, []⟩
/-- A text, or why it is none. -/
def lngP (s : List UInt8) : api_Val × Int := if 65536 < s.length then (val0, 204) else (txtV s, 0)
theorem gt16 (n : Nat) : decide ((n : Int) > 65536) = decide (65536 < n) := by
  by_cases h : 65536 < n
  · rw [decide_eq_true h, decide_eq_true (by omega)]
  · rw [decide_eq_false h, decide_eq_false (by omega)]
theorem long3 (s : List UInt8) : built_long_built_text_3 (s.length : Int) s = some (lngP s) := by
  unfold built_long_built_text_3 lngP
  rw [gt16]
  by_cases h : 65536 < s.length
  · rw [decide_eq_true h, if_pos rfl, if_pos h]
  · rw [decide_eq_false h, if_neg h]; rfl
theorem long1 (s : List UInt8) (a b : api_Val) (h : s.length + b.S.length ≤ 1000000000) : built_long_built_text_1 (wr ((s.length : Int) + (b.S.length : Int))) s [a, b] = some (lngP (s ++ b.S)) := by
  unfold built_long_built_text_1 lngP
  have e : wr ((s.length : Int) + (b.S.length : Int)) = (((s ++ b.S).length : Nat) : Int) := by rw [wr_in (by omega) (by omega), List.length_append]; rfl
  rw [e, gt16]
  by_cases h1 : 65536 < (s ++ b.S).length
  · rw [decide_eq_true h1, if_pos rfl, if_pos h1]
  · rw [decide_eq_false h1, if_neg h1]
    unfold built_text_1
    simp only [Bool.false_eq_true, if_false, idx_1, List.getElem?_cons_succ, List.getElem?_cons_zero, bind_some']
    rw [need_ok (by omega)]
    rfl
theorem replaceK_len (b c : List UInt8) (hb : b ≠ []) : ∀ (k : Nat) (s : List UInt8), Lib.count s b = k → (Lib.replaceK b c k s).length + k * b.length = s.length + k * c.length
  | 0, s, _ => by simp [Lib.replaceK]
  | k + 1, s, h => by
    obtain ⟨i, hi⟩ := Lib.index_of_count (s := s) (old := b) (by omega)
    have hr := Lib.index_room s b (by omega)
    rw [hi] at hr
    rw [Lib.count_hit hb hi] at h
    have ih := replaceK_len b c hb k (s.drop (i + b.length)) (by omega)
    rw [Lib.replaceK_hit b c k s i hi]
    simp only [List.length_append, List.length_take, List.length_drop] at ih ⊢
    rw [Nat.min_eq_left (by omega), Nat.add_mul, Nat.add_mul, Nat.one_mul, Nat.one_mul]
    omega
theorem repAll_eq (s b c : List UInt8) : Lib.replaceAll s b c = if b == c then s else Lib.replaceK b c (Lib.count s b) s := by
  unfold Lib.replaceAll Lib.replace Lib.replaceNum
  rw [if_pos (c := (-1 : Int) < 0 ∨ _) (.inl (by decide))]
theorem repAll_len (s b c : List UInt8) (hb : b ≠ []) : (Lib.replaceAll s b c).length + Lib.count s b * b.length = s.length + Lib.count s b * c.length := by
  rw [repAll_eq]
  by_cases h : (b == c) = true
  · rw [if_pos h, beq_iff_eq.1 h]
  · rw [if_neg h]; exact replaceK_len b c hb _ s rfl
theorem count_mul (b : List UInt8) (hb : b ≠ []) : ∀ (k : Nat) (s : List UInt8), Lib.count s b = k → k * b.length ≤ s.length
  | 0, s, _ => by simp
  | k + 1, s, h => by
    obtain ⟨i, hi⟩ := Lib.index_of_count (s := s) (old := b) (by omega)
    have hr := Lib.index_room s b (by omega)
    rw [hi] at hr
    rw [Lib.count_hit hb hi] at h
    have ih := count_mul b hb k (s.drop (i + b.length)) (by omega)
    rw [List.length_drop] at ih
    rw [Nat.add_mul, Nat.one_mul]
    omega
theorem count_le' (s b : List UInt8) (hb : b ≠ []) : Lib.count s b ≤ s.length := by
  have h := count_mul b hb _ s rfl
  have hp : 1 ≤ b.length := List.length_pos_iff.2 hb
  have := Nat.mul_le_mul_left (Lib.count s b) hp
  omega
theorem long2 (s b c : List UInt8) (hb : b ≠ []) (hs : s.length ≤ 100000) (hc : c.length ≤ 100000) (hbl : b.length ≤ 100000) :
    (strings_Count s b >>= fun x22 => built_long_built_text_2 (wr ((s.length : Int) + (wr (x22 * (wr ((c.length : Int) - (b.length : Int))))))) s b c >>= fun x23 => some (x23.1, x23.2)) = some (lngP (Lib.replaceAll s b c)) := by
  have hn := count_le' s b hb
  have hm := count_mul b hb _ s rfl
  have hl := repAll_len s b c hb
  have hp : 1 ≤ b.length := List.length_pos_iff.2 hb
  have hx : Lib.count s b * c.length ≤ 100000 * 100000 := Nat.mul_le_mul (by omega) hc
  have hcb : Lib.countB ⟨s.toArray⟩ ⟨b.toArray⟩ = Lib.count s b := by show Lib.count _ _ = _; simp
  unfold strings_Count
  rw [need_ok (by omega), bind_some', need_ok hp, bind_some', bind_some', hcb]
  have e : wr ((s.length : Int) + (wr (((Lib.count s b : Nat) : Int) * (wr ((c.length : Int) - (b.length : Int)))))) = ((Lib.replaceAll s b c).length : Int) := by
    have e1 : wr ((c.length : Int) - (b.length : Int)) = (c.length : Int) - (b.length : Int) := wr_in (by omega) (by omega)
    have e2 : ((Lib.count s b : Nat) : Int) * ((c.length : Int) - (b.length : Int)) = ((Lib.count s b * c.length : Nat) : Int) - ((Lib.count s b * b.length : Nat) : Int) := by
      rw [Int.mul_sub]; push_cast; rfl
    rw [e1, e2]
    generalize Lib.count s b * c.length = A at *
    generalize Lib.count s b * b.length = B at *
    generalize (Lib.replaceAll s b c).length = R at *
    clear e1 e2 hcb
    rw [wr_in (n := (A : Int) - (B : Int)) (by omega) (by omega), wr_in (by omega) (by omega)]
    omega
  rw [e]
  unfold built_long_built_text_2 lngP
  rw [gt16]
  by_cases h1 : 65536 < (Lib.replaceAll s b c).length
  · rw [decide_eq_true h1, if_pos rfl, if_pos h1]; rfl
  · rw [decide_eq_false h1, if_neg h1]
    unfold built_text_2 strings_ReplaceAll
    simp only [Bool.false_eq_true, if_false]
    rw [need_ok (by omega), bind_some', need_ok hp, bind_some', need_ok (by rw [hcb]; omega)]
    rfl
theorem bJoinL (l : List api_Val) (by_ : List UInt8) (hl : l.length ≤ 65536) (hS : ∀ x ∈ l, x.S.length ≤ 100000) : ∀ k, k ≤ l.length → ∀ (n : Nat) (acc : List (List UInt8)), acc.length = k → n ≤ 10000000000000 + k * 100000 →
    built_join_L1 l by_ n k acc = some (((n + (((l.drop k).map (·.S)).flatten).length : Nat) : Int), acc ++ (l.drop k).map (·.S)) := by
  refine upto ?_ fun k hk ih => ?_
  · intro n acc _ _
    rw [built_join_L1, ltI, decide_eq_false (Nat.lt_irrefl _), List.drop_length]
    simp
  · intro n acc ha hn
    have hx := hS l[k] (List.getElem_mem hk)
    rw [built_join_L1, ltI, decide_eq_true hk, if_pos rfl, idx_nat, getE hk, bind_some', appL_ok (by simp only [List.length_singleton]; omega) (by simp only [List.length_singleton]; omega), bind_some', wr_succ (by omega)]
    have e : wr ((n : Int) + (l[k].S.length : Int)) = ((n + l[k].S.length : Nat) : Int) := by rw [wr_in (by omega) (by omega)]; rfl
    rw [e, ih _ _ (by rw [List.length_append, ha]; rfl) (by omega), dropE hk]
    simp only [List.map_cons, List.flatten_cons, List.length_append, Nat.add_assoc, List.append_assoc, List.singleton_append]
theorem join_len (s : List UInt8) : ∀ l : List (List UInt8), (Lib.join l s).length = (l.length - 1) * s.length + l.flatten.length
  | [] => by simp [Lib.join, List.intercalate]
  | x :: r => by
    have ht : ∀ r : List (List UInt8), (Lib.joinTail s r).length = r.length * s.length + r.flatten.length := by
      intro r
      induction r with
      | nil => simp [Lib.joinTail]
      | cons y t ih =>
        have e : Lib.joinTail s (y :: t) = (s ++ y) ++ Lib.joinTail s t := by simp [Lib.joinTail]
        rw [e, List.length_append, List.length_append, ih, List.length_cons, List.flatten_cons, List.length_append, Nat.add_mul, Nat.one_mul]
        omega
    rw [Lib.join_cons, List.length_append, ht, List.length_cons, List.flatten_cons, List.length_append, Nat.add_sub_cancel]
    omega
theorem flat_le (B : Nat) : ∀ l : List (List UInt8), (∀ x ∈ l, x.length ≤ B) → l.flatten.length ≤ l.length * B
  | [], _ => by simp
  | x :: r, h => by
    have h1 := h x (by simp)
    have h2 := flat_le B r fun y hy => h y (by simp [hy])
    rw [List.flatten_cons, List.length_append, List.length_cons, Nat.add_mul, Nat.one_mul]
    omega
theorem bJoin (l : List api_Val) (by_ : List UInt8) (hl : l.length ≤ 65536) (hS : ∀ x ∈ l, x.S.length ≤ 100000) (hb : by_.length ≤ 100000) : built_join l by_ = some (lngP (Lib.join (l.map (·.S)) by_)) := by
  unfold built_join
  have e0 : (if (wr ((l.length : Int) - 1)) > (0 : Int) then (wr ((l.length : Int) - 1)) else (0 : Int)) = ((l.length - 1 : Nat) : Int) := by
    rw [wr_in (by omega) (by omega)]
    split <;> omega
  have hm : (l.length - 1) * by_.length ≤ 65536 * 100000 := Nat.mul_le_mul (by omega) hb
  have e1 : wr (((l.length - 1 : Nat) : Int) * (by_.length : Int)) = (((l.length - 1) * by_.length : Nat) : Int) := by
    rw [show ((l.length - 1 : Nat) : Int) * (by_.length : Int) = (((l.length - 1) * by_.length : Nat) : Int) by push_cast; rfl]
    exact wr_in (by omega) (by omega)
  have hfl := flat_le 100000 (l.map (·.S)) (by
    intro x hx
    obtain ⟨v, hv, rfl⟩ := List.mem_map.1 hx
    exact hS v hv)
  rw [List.length_map] at hfl
  have hf2 : l.length * 100000 ≤ 65536 * 100000 := Nat.mul_le_mul_right _ hl
  have h1 := bJoinL l by_ hl hS 0 (Nat.zero_le _) ((l.length - 1) * by_.length) [] rfl (by omega)
  rw [List.drop_zero, List.nil_append, show ((0 : Nat) : Int) = 0 from rfl] at h1
  rw [e0, e1, h1, bind_some']
  simp only
  have hjl := join_len by_ (l.map (·.S))
  rw [List.length_map] at hjl
  rw [← hjl]
  unfold built_long_built_join_1 lngP
  rw [gt16]
  by_cases hh : 65536 < (Lib.join (l.map (·.S)) by_).length
  · rw [decide_eq_true hh, if_pos rfl, if_pos hh]; rfl
  · rw [decide_eq_false hh, if_neg hh]
    unfold built_join_1 octet_Join strings_Join
    simp only [Bool.false_eq_true, if_false]
    rw [need_ok (by rw [List.length_map]; omega), bind_some', need_ok (by omega)]
    rfl
def addP (a b : Int) : Int := if a + b > 9223372036854775807 then 9223372036854775807 else if a + b < -9223372036854775808 then -9223372036854775808 else a + b
def inI (n : Int) : Prop := -9223372036854775808 ≤ n ∧ n ≤ 9223372036854775807
theorem wr_hi {n : Int} (h1 : 9223372036854775808 ≤ n) (h2 : n ≤ 18446744073709551615) : wr n = n - 18446744073709551616 := by
  simp [wr, IntKind.wrap, IntKind.bits, IntKind.signed]
  omega
theorem wr_lo {n : Int} (h1 : n < -9223372036854775808) (h2 : -18446744073709551616 ≤ n) : wr n = n + 18446744073709551616 := by
  simp [wr, IntKind.wrap, IntKind.bits, IntKind.signed]
  omega
theorem bAdd (a b : Int) (ha : inI a) (hb : inI b) : built_add a b = some (addP a b) := by
  obtain ⟨a1, a2⟩ := ha
  obtain ⟨b1, b2⟩ := hb
  unfold built_add built_within_int addP
  by_cases h1 : a + b > 9223372036854775807
  · rw [if_pos h1, wr_hi (by omega) (by omega), decide_eq_true (show b > 0 by omega), if_pos rfl, decide_eq_true (by omega)]; rfl
  · rw [if_neg h1]
    by_cases h2 : a + b < -9223372036854775808
    · rw [if_pos h2, wr_lo (by omega) (by omega), decide_eq_false (show ¬ b > 0 by omega), decide_eq_true (show b < 0 by omega)]
      simp only [Bool.false_eq_true, if_false, bind_some', if_true]
      rw [decide_eq_true (by omega)]; rfl
    · rw [if_neg h2, wr_in (by omega) (by omega)]
      by_cases h3 : b > 0
      · rw [decide_eq_true h3, if_pos rfl, decide_eq_false (by omega), decide_eq_false (by omega)]; rfl
      · rw [decide_eq_false h3]
        simp only [Bool.false_eq_true, if_false, bind_some']
        by_cases h4 : b < 0
        · rw [decide_eq_true h4, if_pos rfl, decide_eq_false (by omega)]; rfl
        · rw [decide_eq_false h4]; rfl
theorem addP_in {a b : Int} : inI (addP a b) := by unfold addP inI; split <;> (try split) <;> constructor <;> omega
theorem bSub (a b : Int) (ha : inI a) (hb : inI b) : built_sub a b = some (addP a (-b)) := by
  unfold built_sub
  by_cases h : b = -9223372036854775808
  · subst h
    rw [if_pos (by decide), bAdd a _ ha (by constructor <;> decide), bind_some', bAdd _ 1 addP_in (by constructor <;> decide), bind_some']
    obtain ⟨a1, a2⟩ := ha
    congr 1
    unfold addP
    split <;> split <;> (try split) <;> (try split) <;> omega
  · rw [if_neg (by simpa using h)]
    obtain ⟨b1, b2⟩ := hb
    rw [wr_in (by omega) (by omega), show 0 - b = -b by omega, bAdd a _ ha ⟨by omega, by omega⟩]
    rfl
end Go.Proofs.YteahaflhihioaaaGreatDoor
end

section
namespace Go.Proofs.YteahaflhihioaaaGreatDoor
open Go.RowKit

theorem idx_2 {α : Type} (l : List α) : idx l 2 = l[2]? := idx_nat l 2
theorem clamp0 (n : Int) : (if 0 > n then 0 else n) = ((n.toNat : Nat) : Int) := by split <;> omega

theorem do_upper (a : api_Val) (ha : a.S.length ≤ 100000) : built_do [117, 112, 112, 101, 114] [a] = some (lngP (trnL 97 122 a.S)) := by
  have h1 : built_turned a.S 97 122 = some (trnL 97 122 a.S) := by unfold built_turned; rw [need_ok (by omega)]; rfl
  simp [built_do, built_text, h1, long3]
theorem do_lower (a : api_Val) (ha : a.S.length ≤ 100000) : built_do [108, 111, 119, 101, 114] [a] = some (lngP (trnL 65 90 a.S)) := by
  have h1 : built_turned a.S 65 90 = some (trnL 65 90 a.S) := by unfold built_turned; rw [need_ok (by omega)]; rfl
  simp [built_do, built_text, h1, long3]
theorem do_trim (a : api_Val) (ha : a.S.length ≤ 100000) : built_do [116, 114, 105, 109] [a] = some (lngP (Lib.trimS a.S [32, 9, 10, 13])) := by
  have h1 : strings_Trim a.S [32, 9, 10, 13] = some (Lib.trimS a.S [32, 9, 10, 13]) := by unfold strings_Trim; rw [need_ok (by omega), bind_some', need_ok (by decide), bind_some', need_ok (by decide)]; rfl
  simp [built_do, built_text, h1, long3]
theorem do_size (a : api_Val) (ha : a.S.length ≤ 100000) : built_do [115, 105, 122, 101] [a] = some (numV (cutsP a.S).length, 0) := by
  simp [built_do, uCount a.S (by omega), schema_Number]
theorem flat_take (l : List (List UInt8)) (n : Nat) : (l.take n).flatten.length ≤ l.flatten.length := by
  conv => rhs; rw [← List.take_append_drop n l, List.flatten_append, List.length_append]
  omega
theorem do_first (a b : api_Val) (ha : a.S.length ≤ 100000) (hb : b.N ≤ 9223372036854775807) : built_do [102, 105, 114, 115, 116] [a, b] = some (lngP ((cutsP a.S).take b.N.toNat).flatten) := by
  have h1 := bCut a.S (by omega) b.N.toNat (by omega)
  have h3 := flat_take (cutsP a.S) b.N.toNat
  rw [cutsP_flat] at h3
  have h2 : cutL a.S 0 (((((cutsP a.S).take b.N.toNat).flatten).length : Nat) : Int) = some ((cutsP a.S).take b.N.toNat).flatten := by
    rw [cutL_ok (by omega) (by omega) (by omega)]
    show some ((a.S.take _).drop 0) = _
    rw [List.drop_zero, Int.toNat_natCast, take_cuts]
  simp only [← clamp0] at h1
  have e : built_do [102, 105, 114, 115, 116] [a, b] = built_text [102, 105, 114, 115, 116] [a, b] >>= fun x53 => some (x53.1, x53.2) := rfl
  rw [e]
  have e2 : built_text [102, 105, 114, 115, 116] [a, b] = some (lngP ((cutsP a.S).take b.N.toNat).flatten) := by
    unfold built_text
    simp only [idx_0, idx_1, List.getElem?_cons_zero, List.getElem?_cons_succ, bind_some', h1, h2]
    simp [long3]
  rw [e2]; rfl
theorem do_last (a b : api_Val) (ha : a.S.length ≤ 100000) (hb : b.N ≤ 9223372036854775807) : built_do [108, 97, 115, 116] [a, b] = some (lngP ((cutsP a.S).drop ((cutsP a.S).length - min b.N.toNat (cutsP a.S).length)).flatten) := by
  have hc := cutsP_len a.S
  have e0 : (wr (((cutsP a.S).length : Int) - (if ((cutsP a.S).length : Int) < (if 0 > b.N then 0 else b.N) then ((cutsP a.S).length : Int) else (if 0 > b.N then 0 else b.N)))) = (((cutsP a.S).length - min b.N.toNat (cutsP a.S).length : Nat) : Int) := by
    rw [clamp0]
    by_cases hlt : (cutsP a.S).length < b.N.toNat
    · rw [if_pos (by omega), Nat.min_eq_right (by omega), wr_in (by omega) (by omega)]; omega
    · rw [if_neg (by omega), Nat.min_eq_left (by omega), wr_in (by omega) (by omega)]; omega
  have h1 := bCut a.S (by omega) ((cutsP a.S).length - min b.N.toNat (cutsP a.S).length) (by omega)
  have h3 := flat_take (cutsP a.S) ((cutsP a.S).length - min b.N.toNat (cutsP a.S).length)
  rw [cutsP_flat] at h3
  have h2 : cutL a.S (((((cutsP a.S).take ((cutsP a.S).length - min b.N.toNat (cutsP a.S).length)).flatten).length : Nat) : Int) (a.S.length : Int) = some ((cutsP a.S).drop ((cutsP a.S).length - min b.N.toNat (cutsP a.S).length)).flatten := by
    rw [cutL_ok (by omega) (by omega) (by omega), Int.toNat_natCast, Int.toNat_natCast, List.take_length, drop_cuts]
  rw [← e0] at h1
  have e : built_do [108, 97, 115, 116] [a, b] = built_text [108, 97, 115, 116] [a, b] >>= fun x53 => some (x53.1, x53.2) := rfl
  rw [e]
  have e2 : built_text [108, 97, 115, 116] [a, b] = some (lngP ((cutsP a.S).drop ((cutsP a.S).length - min b.N.toNat (cutsP a.S).length)).flatten) := by
    have hu := uCount a.S (by omega)
    unfold built_text
    simp only [idx_0, idx_1, List.getElem?_cons_zero, List.getElem?_cons_succ, bind_some', hu, h1, h2]
    simp [long3]
  rw [e2]; rfl
theorem do_default (a b : api_Val) (ha : a.S.length ≤ 100000) (hb : b.S.length ≤ 100000) : built_do [100, 101, 102, 97, 117, 108, 116] [a, b] = some (lngP (if a.S = [] then b.S else a.S)) := by
  by_cases h : a.S = []
  · simp [built_do, built_text, h, long3 b.S]
  · simp [built_do, built_text, h, long3 a.S]
theorem do_cat (a b : api_Val) (ha : a.S.length ≤ 100000) (hb : b.S.length ≤ 100000) : built_do [99, 97, 116] [a, b] = some (lngP (a.S ++ b.S)) := by
  have h1 := long1 a.S a b (by omega)
  simp [built_do, built_text, h1]
theorem do_replace (a b c : api_Val) (ha : a.S.length ≤ 100000) (hb : b.S.length ≤ 100000) (hc : c.S.length ≤ 100000) : built_do [114, 101, 112, 108, 97, 99, 101] [a, b, c] = some (lngP (if b.S = [] then a.S else Lib.replaceAll a.S b.S c.S)) := by
  by_cases h : b.S = []
  · simp [built_do, built_text, h, idx_2, long3 a.S]
  · have h1 := long2 a.S b.S c.S h ha hc hb
    rw [if_neg h]
    have e : built_do [114, 101, 112, 108, 97, 99, 101] [a, b, c] = built_text [114, 101, 112, 108, 97, 99, 101] [a, b, c] >>= fun x53 => some (x53.1, x53.2) := rfl
    rw [e]
    have e2 : built_text [114, 101, 112, 108, 97, 99, 101] [a, b, c] = some (lngP (Lib.replaceAll a.S b.S c.S)) := by
      rw [← h1]
      have hb0 : (b.S == []) = false := by simpa using h
      simp [built_text, idx_2, h]
      cases strings_Count a.S b.S with
      | none => rfl
      | some n =>
        simp only [Option.bind_some]
        cases built_long_built_text_2 (wr ((a.S.length : Int) + wr (n * wr ((c.S.length : Int) - (b.S.length : Int))))) a.S b.S c.S with
        | none => rfl
        | some v => obtain ⟨⟨_, _, _, _, _⟩, _⟩ := v; rfl
    rw [e2]; rfl
theorem do_join (a b : api_Val) (hl : a.L.length ≤ 65536) (hS : ∀ x ∈ a.L, x.S.length ≤ 100000) (hb : b.S.length ≤ 100000) : built_do [106, 111, 105, 110] [a, b] = some (lngP (Lib.join (a.L.map (·.S)) b.S)) := by
  simp [built_do, bJoin a.L b.S hl hS hb]
theorem keysL (v : api_Val) (hl : v.L.length ≤ 65536) (hp : ∀ p ∈ v.L, ∃ a b, p.L = [a, b]) : ∀ k, k ≤ v.L.length → ∀ acc : List api_Val, acc.length = k →
    built_do_L1 v k acc = some (acc ++ (v.L.drop k).map fun p => txtV (p.L.getD 0 val0).S) := by
  refine upto ?_ fun k hk ih => ?_
  · intro acc _
    rw [built_do_L1, ltI, decide_eq_false (Nat.lt_irrefl _), List.drop_length]; simp
  · intro acc ha
    obtain ⟨a, b, hab⟩ := hp v.L[k] (List.getElem_mem hk)
    rw [built_do_L1, ltI, decide_eq_true hk, if_pos rfl, idx_nat, getE hk, bind_some', hab, idx_0, List.getElem?_cons_zero, bind_some', schema_Text, bind_some',
      appL_ok (by simp only [List.length_singleton]; omega) (by simp only [List.length_singleton]; omega), bind_some', wr_succ (by omega), ih _ (by rw [List.length_append, ha]; rfl), dropE hk]
    simp only [List.map_cons, hab, List.append_assoc, List.singleton_append, List.getD_cons_zero]
theorem do_keys (a : api_Val) (hl : a.L.length ≤ 65536) (hp : ∀ p ∈ a.L, ∃ x y, p.L = [x, y]) : built_do [107, 101, 121, 115] [a] = some (⟨7, [], 0, false, a.L.map fun p => txtV (p.L.getD 0 val0).S⟩, 0) := by
  have h1 := keysL a hl hp 0 (Nat.zero_le _) [] rfl
  rw [List.drop_zero, show ((0 : Nat) : Int) = 0 from rfl] at h1
  simp [built_do, h1]
theorem do_get (a b : api_Val) (hf : few a) : built_do [103, 101, 116] [a, b] = some (lngP (findP a b.S).1) := by
  simp [built_do, built_text, sFind a b.S hf, long3]
theorem do_has (a b : api_Val) (hf : few a) : built_do [104, 97, 115] [a, b] = some (truV (findP a b.S).2, 0) := by
  simp [built_do, sFind a b.S hf, schema_Truth]
theorem do_count (a : api_Val) : built_do [99, 111, 117, 110, 116] [a] = some (numV a.L.length, 0) := by
  simp [built_do, schema_Number]
theorem do_write (a : api_Val) (h : inI a.N) : built_do [119, 114, 105, 116, 101] [a] = some (txtV (if a.K = 2 then textL a.N else if a.B = true then [116, 114, 117, 101] else [102, 97, 108, 115, 101]), 0) := by
  have h1 : octet_Text a.N = some (textL a.N) := by unfold octet_Text; rw [need_ok h.1, bind_some', need_ok h.2]; rfl
  by_cases hk : a.K = 2
  · simp [built_do, hk, h1, schema_Text]
  · cases hb : a.B <;> simp [built_do, hk, hb, schema_Text]
theorem do_add (a b : api_Val) (ha : inI a.N) (hb : inI b.N) : built_do [97, 100, 100] [a, b] = some (numV (addP a.N b.N), 0) := by
  simp [built_do, bAdd a.N b.N ha hb, schema_Number]
theorem do_sub (a b : api_Val) (ha : inI a.N) (hb : inI b.N) : built_do [115, 117, 98] [a, b] = some (numV (addP a.N (-b.N)), 0) := by
  simp [built_do, bSub a.N b.N ha hb, schema_Number]
theorem do_less (a b : api_Val) : built_do [108, 101, 115, 115] [a, b] = some (truV (decide (a.N < b.N)), 0) := by
  simp [built_do, schema_Truth]
theorem do_same (a b : api_Val) (hf : few a) : built_do [115, 97, 109, 101] [a, b] = some (truV (sme a b), 0) := by
  simp [built_do, sSm a b hf, schema_Truth]
theorem do_both (a b : api_Val) : built_do [98, 111, 116, 104] [a, b] = some (truV (a.B && b.B), 0) := by
  cases h : a.B <;> simp [built_do, h, schema_Truth]
theorem do_either (a b : api_Val) : built_do [101, 105, 116, 104, 101, 114] [a, b] = some (truV (a.B || b.B), 0) := by
  cases h : a.B <;> simp [built_do, h, schema_Truth]
theorem do_not (a : api_Val) : built_do [110, 111, 116] [a] = some (truV (!a.B), 0) := by
  simp [built_do, schema_Truth]
theorem bKindsL (n : List UInt8) (l : List api_Val) (hl : l.length ≤ 65536) : ∀ k, k ≤ l.length → ∀ acc : List Int, acc.length = k → built_Call_L1 n l acc k = some (acc ++ (l.drop k).map (·.K)) := by
  refine upto ?_ fun k hk ih => ?_
  · intro acc _
    rw [built_Call_L1, ltI, decide_eq_false (Nat.lt_irrefl _), List.drop_length]; simp
  · intro acc ha
    rw [built_Call_L1, ltI, decide_eq_true hk, if_pos rfl, idx_nat, getE hk, bind_some', appL_ok (by simp only [List.length_singleton]; omega) (by simp only [List.length_singleton]; omega), bind_some', wr_succ (by omega), ih _ (by rw [List.length_append, ha]; rfl), dropE hk]
    simp only [List.map_cons, List.append_assoc, List.singleton_append]
theorem bConfL (l : List api_Val) (hl : l.length ≤ 65536) (hf : fews l) : ∀ k, k ≤ l.length → ∃ o, slices_IndexFunc_api_Val_api_Val_built_Call_1_L1 l k = some o ∧ (match o with | .inl _ => (l.drop k).all cnf = true | .inr j => 0 ≤ j ∧ (l.drop k).all cnf = false) := by
  refine upto ?_ fun k hk ih => ?_
  · rw [slices_IndexFunc_api_Val_api_Val_built_Call_1_L1, ltI, decide_eq_false (Nat.lt_irrefl _), List.drop_length]
    exact ⟨.inl (), rfl, rfl⟩
  · rw [slices_IndexFunc_api_Val_api_Val_built_Call_1_L1, ltI, decide_eq_true hk, if_pos rfl, idx_nat, getE hk, bind_some', built_Call_1, sIs _ (fews_mem hf _ (List.getElem_mem hk)), bind_some', bind_some', dropE hk, List.all_cons]
    cases hc : cnf l[k] with
    | false => exact ⟨.inr k, rfl, by omega, rfl⟩
    | true =>
      obtain ⟨o, h1, h2⟩ := ih
      refine ⟨o, ?_, by simpa using h2⟩
      rw [wr_succ (by omega)]
      exact h1
theorem bConf (l : List api_Val) (hl : l.length ≤ 65536) (hf : fews l) : slices_ContainsFunc_api_Val_api_Val_built_Call_1 l = some (!(l.all cnf)) := by
  unfold slices_ContainsFunc_api_Val_api_Val_built_Call_1 slices_IndexFunc_api_Val_api_Val_built_Call_1
  obtain ⟨o, h1, h2⟩ := bConfL l hl hf 0 (Nat.zero_le _)
  rw [show ((0 : Nat) : Int) = 0 from rfl] at h1
  rw [h1]
  cases o with
  | inl _ => simp only [List.drop_zero] at h2; rw [h2]; rfl
  | inr j => simp only [List.drop_zero] at h2; rw [h2.2]; simp [h2.1]
theorem bCall (n : List UInt8) (l : List api_Val) (hl : l.length ≤ 65536) (hf : fews l) : built_Call n l = if (callP n (l.map (·.K))).2 = true ∧ l.all cnf = true then built_do n l else some (val0, 201) := by
  unfold built_Call
  have h1 := bKindsL n l hl 0 (Nat.zero_le _) [] rfl
  rw [List.drop_zero, List.nil_append, show ((0 : Nat) : Int) = 0 from rfl] at h1
  rw [h1, bind_some', kind_Call, bind_some', bConf l hl hf]
  cases hc : (callP n (l.map (·.K))).2 with
  | false => simp
  | true =>
    cases ha : l.all cnf with
    | false => simp
    | true =>
      simp only [Bool.not_true, Bool.false_eq_true, if_false, bind_some', and_self, if_true]
      cases built_do n l <;> rfl
end Go.Proofs.YteahaflhihioaaaGreatDoor
end

section
namespace Go.Proofs.YteahaflhihioaaaGreatDoor
open Go.RowKit

theorem cnf_txt (s : List UInt8) : cnf (txtV s) = true := by rw [cnf_eq]; simp [plainB]
theorem cnf_num (n : Int) : cnf (numV n) = true := by rw [cnf_eq]; simp [plainB]
theorem cnf_tru (b : Bool) : cnf (truV b) = true := by rw [cnf_eq]; simp [plainB]
theorem few_txt (s : List UInt8) : few (txtV s) := by simp [few, fews]
theorem few_num (n : Int) : few (numV n) := by simp [few, fews]
theorem few_tru (b : Bool) : few (truV b) := by simp [few, fews]
theorem lngP_ok (s : List UInt8) (h : s.length ≤ 65536) : lngP s = (txtV s, 0) := by rw [lngP, if_neg (by omega)]
theorem c_first (s : List UInt8) (n : Int) (h : s.length ≤ 100000) (hn : n ≤ 9223372036854775807) : built_Call [102, 105, 114, 115, 116] [txtV s, numV n] = some (lngP ((cutsP s).take n.toNat).flatten) := by
  rw [bCall _ [txtV s, numV n] (by show _ ≤ _; simp) ⟨few_txt s, few_num n, True.intro⟩, if_pos ⟨show (callP [102, 105, 114, 115, 116] [1, 2]).2 = true by decide +kernel, by rw [List.all_cons, List.all_cons, cnf_txt, cnf_num]; rfl⟩]
  exact do_first (txtV s) (numV n) h hn
theorem c_replace (s b c : List UInt8) (h : s.length ≤ 100000) (h2 : b.length ≤ 100000) (h3 : c.length ≤ 100000) : built_Call [114, 101, 112, 108, 97, 99, 101] [txtV s, txtV b, txtV c] = some (lngP (if b = [] then s else Lib.replaceAll s b c)) := by
  rw [bCall _ [txtV s, txtV b, txtV c] (by show _ ≤ _; simp) ⟨few_txt s, few_txt b, few_txt c, True.intro⟩, if_pos ⟨show (callP [114, 101, 112, 108, 97, 99, 101] [1, 1, 1]).2 = true by decide +kernel, by rw [List.all_cons, List.all_cons, List.all_cons, cnf_txt, cnf_txt, cnf_txt]; rfl⟩]
  exact do_replace (txtV s) (txtV b) (txtV c) h h2 h3
theorem c_add (a b : Int) (ha : inI a) (hb : inI b) : built_Call [97, 100, 100] [numV a, numV b] = some (numV (addP a b), 0) := by
  rw [bCall _ [numV a, numV b] (by show _ ≤ _; simp) ⟨few_num a, few_num b, True.intro⟩, if_pos ⟨show (callP [97, 100, 100] [2, 2]).2 = true by decide +kernel, by rw [List.all_cons, List.all_cons, cnf_num, cnf_num]; rfl⟩]
  exact do_add (numV a) (numV b) ha hb
theorem cnf_nop : cnf ⟨8, [], 0, false, []⟩ = true := by rw [cnf_eq]; simp [plainB, elemP, cnfA]
theorem c_get : built_Call [103, 101, 116] [⟨8, [], 0, false, []⟩, txtV [120]] = some (txtV [], 0) := by
  have hf : few ⟨8, [], 0, false, []⟩ := by simp [few, fews]
  rw [bCall _ [⟨8, [], 0, false, []⟩, txtV [120]] (by show _ ≤ _; simp) ⟨hf, few_txt _, True.intro⟩, if_pos ⟨show (callP [103, 101, 116] [8, 1]).2 = true by decide +kernel, by rw [List.all_cons, List.all_cons, cnf_txt, cnf_nop]; rfl⟩, do_get _ _ hf]
  have e : findP ⟨8, [], 0, false, []⟩ [120] = ([], false) := by
    unfold findP
    rw [if_pos ⟨rfl, cnf_nop⟩]
    rfl
  show some (lngP (findP ⟨8, [], 0, false, []⟩ [120]).1) = _
  rw [e]; rfl
theorem awake31 : nunciolaw31_awake = some true := by
  have h1 := c_first [104, 195, 169, 108, 108, 111] 2 (by decide) (by decide)
  rw [show ((cutsP [104, 195, 169, 108, 108, 111]).take (2 : Int).toNat).flatten = [104, 195, 169] by decide +kernel] at h1
  have h2 := c_replace [97, 97, 97] [97, 97] [98] (by decide) (by decide) (by decide)
  rw [show (if ([97, 97] : List UInt8) = [] then ([97, 97, 97] : List UInt8) else Lib.replaceAll [97, 97, 97] [97, 97] [98]) = [98, 97] by decide +kernel] at h2
  have h3 := c_add 9223372036854775807 1 (by constructor <;> decide) (by constructor <;> decide)
  rw [show addP 9223372036854775807 1 = 9223372036854775807 by decide +kernel] at h3
  unfold nunciolaw31_awake
  simp only [R16_Text, nunciolaw31_number, bind_some', h1, h2, h3, c_get]
  rfl
end Go.Proofs.YteahaflhihioaaaGreatDoor
end
