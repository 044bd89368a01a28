/- The proof's texts, part 9 of 10: the walks by a logic in which data are by value, the plain laws, and at the end the law, for every input. -/
import Derived.Test.YtebkhehjfkmdiaaMgTreeLong8

section
set_option linter.unusedVariables false
set_option linter.unusedSimpArgs false
namespace Go.Proofs.Ytebkhehjfkmdiaa
open Go.RowKit

set_option maxRecDepth 100000 in
set_option maxHeartbeats 4000000 in
theorem tree_Deep_ok : ∀ (p0 : (List api_Node)) (o : Int), tree_Deep p0 = some o → PCall Try.prog 38 [.sl false (p0.map c_api_Node)] (t_tree_Deep o) := by
  intro p0 o h
  unfold tree_Deep at h
  refine PCall.ofB mixed tbOk tree_Deep_lv Try.func38 rfl (by kernel_rfl) (Nat.le_of_ble_eq_true rfl) ?_
  refine st_call [.sl false (p0.map c_api_Node), iV 1] t_tree_all h (fun x1 hy => (tree_all_ok p0 1 x1 hy)) (fun x1 hy h => ?_)
  refine st_bind h (fun y5 hy5 h => ?_)
  refine st_bind h (fun o6 ho hk => ?_)
  refine Exists.intro (JP1 _ _ o6 .normal (tree_Deep_L1_x0 x1)) (And.intro (T_le (τ := tree_Deep_L1_st x1 0) ?_ (T_range (g := 60) (cap := [.ep [.sl false (x1.1.map c_api_Node)], .ep [iV x1.2]]) rfl ((tree_all_1_ok x1.1 x1.2 y5 hy5) _ rfl) (mapSize fun _ => rfl) rfl (Nat.le_of_ble_eq_true rfl) (Nat.le_of_ble_eq_true rfl) (tree_Deep_L1_ok x1 y5.1 0 o6 ho))) (join1 ?_))
  · exact Le.tow 1 0 rfl (.cons rfl (.refl _) (.cons rfl (.refl _) (.nil))) (.refl _) rfl
  have h := hk
  refine st_ret (t := t_tree_Deep) h ?_
  exact .refl _
noncomputable def strings_HasSuffix (p0 : (List UInt8)) (p1 : (List UInt8)) : Option (Bool) :=
  internal_stringslite_HasSuffix p0 p1 >>= fun x1 =>
  some x1
set_option maxRecDepth 100000 in
set_option maxHeartbeats 4000000 in
theorem strings_HasSuffix_ok : ∀ (p0 : (List UInt8)) (p1 : (List UInt8)) (o : Bool), strings_HasSuffix p0 p1 = some o → PCall Try.prog 53 [sV p0, sV p1] (t_strings_HasSuffix o) := by
  intro p0 p1 o h
  unfold strings_HasSuffix at h
  refine PCall.ofB mixed tbOk strings_HasSuffix_lv Try.func53 rfl (by kernel_rfl) (Nat.le_of_ble_eq_true rfl) ?_
  refine st_call [sV p0, sV p1] t_internal_stringslite_HasSuffix h (fun x1 hy => (internal_stringslite_HasSuffix_ok p0 p1 x1 hy)) (fun x1 hy h => ?_)
  refine st_ret (t := t_strings_HasSuffix) h ?_
  exact .refl _
noncomputable def strings_Index (p0 : (List UInt8)) (p1 : (List UInt8)) : Option (Int) :=
  internal_stringslite_Index p0 p1 >>= fun x1 =>
  some x1
set_option maxRecDepth 100000 in
set_option maxHeartbeats 4000000 in
theorem strings_Index_ok : ∀ (p0 : (List UInt8)) (p1 : (List UInt8)) (o : Int), strings_Index p0 p1 = some o → PCall Try.prog 75 [sV p0, sV p1] (t_strings_Index o) := by
  intro p0 p1 o h
  unfold strings_Index at h
  refine PCall.ofB mixed tbOk strings_Index_lv Try.func75 rfl (by kernel_rfl) (Nat.le_of_ble_eq_true rfl) ?_
  refine st_call [sV p0, sV p1] t_internal_stringslite_Index h (fun x1 hy => (internal_stringslite_Index_ok p0 p1 x1 hy)) (fun x1 hy h => ?_)
  refine st_ret (t := t_strings_Index) h ?_
  exact .refl _
noncomputable def strings_Contains (p0 : (List UInt8)) (p1 : (List UInt8)) : Option (Bool) :=
  strings_Index p0 p1 >>= fun x1 =>
  some (decide (x1 ≥ 0))
set_option maxRecDepth 100000 in
set_option maxHeartbeats 4000000 in
theorem strings_Contains_ok : ∀ (p0 : (List UInt8)) (p1 : (List UInt8)) (o : Bool), strings_Contains p0 p1 = some o → PCall Try.prog 62 [sV p0, sV p1] (t_strings_Contains o) := by
  intro p0 p1 o h
  unfold strings_Contains at h
  refine PCall.ofB mixed tbOk strings_Contains_lv Try.func62 rfl (by kernel_rfl) (Nat.le_of_ble_eq_true rfl) ?_
  refine st_call [sV p0, sV p1] t_strings_Index h (fun x1 hy => (strings_Index_ok p0 p1 x1 hy)) (fun x1 hy h => ?_)
  refine st_ret (t := t_strings_Contains) h ?_
  exact .refl _
noncomputable def tree_Name (p0 : (List UInt8)) : Option (Bool) :=
  ( if (p0 == [105, 102]) then
      some (p0 == [105, 102])
    else
      if (p0 == [101, 108, 115, 101]) then
        some (p0 == [101, 108, 115, 101])
      else
        if (p0 == [101, 110, 100]) then
          some (p0 == [101, 110, 100])
        else
          if (p0 == [101, 97, 99, 104]) then
            some (p0 == [101, 97, 99, 104])
          else
            if (p0 == [105, 110]) then
              some (p0 == [105, 110])
            else
              if (p0 == [108, 101, 116]) then
                some (p0 == [108, 101, 116])
              else
                if (p0 == [117, 115, 101]) then
                  some (p0 == [117, 115, 101])
                else
                  if (p0 == [116, 114, 117, 101]) then
                    some (p0 == [116, 114, 117, 101])
                  else
                    if (p0 == [102, 97, 108, 115, 101]) then
                      some (p0 == [102, 97, 108, 115, 101])
                    else
                      some (p0 == [115, 101, 99, 114, 101, 116]) : Option (Bool)) >>= fun o1 =>
  if o1 then
    some false
  else
    lex_Word p0 >>= fun x2 =>
    some x2
set_option maxRecDepth 100000 in
set_option maxHeartbeats 4000000 in
theorem tree_Name_ok : ∀ (p0 : (List UInt8)) (o : Bool), tree_Name p0 = some o → PCall Try.prog 63 [sV p0] (t_tree_Name o) := by
  intro p0 o h
  unfold tree_Name at h
  refine PCall.ofB mixed tbOk tree_Name_lv Try.func63 rfl (by kernel_rfl) (Nat.le_of_ble_eq_true rfl) ?_
  refine st_bind h (fun o1 ho hk => ?_)
  refine Exists.intro (JP1 _ _ o1 .normal (tree_Name_J0_0 p0)) (And.intro ?_ (join1 ?_))
  · have h := ho
    refine st_test h (fun hb h => ?_) (fun hb h => ?_)
    · refine JP1.a h ?_
      exact Le.tow 0 0 rfl (.cons rfl (.refl _) (.cons rfl (.refl _) (.nil))) (.refl _) rfl
    · refine st_test h (fun hb h => ?_) (fun hb h => ?_)
      · refine JP1.a h ?_
        exact Le.tow 0 0 rfl (.cons rfl (.refl _) (.cons rfl (.refl _) (.nil))) (.refl _) rfl
      · refine st_test h (fun hb h => ?_) (fun hb h => ?_)
        · refine JP1.a h ?_
          exact Le.tow 0 0 rfl (.cons rfl (.refl _) (.cons rfl (.refl _) (.nil))) (.refl _) rfl
        · refine st_test h (fun hb h => ?_) (fun hb h => ?_)
          · refine JP1.a h ?_
            exact Le.tow 0 0 rfl (.cons rfl (.refl _) (.cons rfl (.refl _) (.nil))) (.refl _) rfl
          · refine st_test h (fun hb h => ?_) (fun hb h => ?_)
            · refine JP1.a h ?_
              exact Le.tow 0 0 rfl (.cons rfl (.refl _) (.cons rfl (.refl _) (.nil))) (.refl _) rfl
            · refine st_test h (fun hb h => ?_) (fun hb h => ?_)
              · refine JP1.a h ?_
                exact Le.tow 0 0 rfl (.cons rfl (.refl _) (.cons rfl (.refl _) (.nil))) (.refl _) rfl
              · refine st_test h (fun hb h => ?_) (fun hb h => ?_)
                · refine JP1.a h ?_
                  exact Le.tow 0 0 rfl (.cons rfl (.refl _) (.cons rfl (.refl _) (.nil))) (.refl _) rfl
                · refine st_test h (fun hb h => ?_) (fun hb h => ?_)
                  · refine JP1.a h ?_
                    exact Le.tow 0 0 rfl (.cons rfl (.refl _) (.cons rfl (.refl _) (.nil))) (.refl _) rfl
                  · refine st_test h (fun hb h => ?_) (fun hb h => ?_)
                    · refine JP1.a h ?_
                      exact Le.tow 0 0 rfl (.cons rfl (.refl _) (.cons rfl (.refl _) (.nil))) (.refl _) rfl
                    · refine JP1.a h ?_
                      exact Le.tow 0 0 rfl (.cons rfl (.refl _) (.cons rfl (.refl _) (.nil))) (.refl _) rfl
  · have h := hk
    refine st_test h (fun hb h => ?_) (fun hb h => ?_)
    · refine st_ret (t := t_tree_Name) h ?_
      exact .refl _
    · refine st_call [sV p0] t_lex_Word h (fun x2 hy => (lex_Word_ok p0 x2 hy)) (fun x2 hy h => ?_)
      refine st_ret (t := t_tree_Name) h ?_
      exact .refl _
noncomputable def tree_planned (p0 : api_Node) : Option (tree_plan) :=
  some (tree_plan.mk (!(p0.Name == [])) (!(p0.Text == [])) (p0.N != 0) (decide ((p0.Then.length : Int) > 0)) (decide ((p0.Else.length : Int) > 0)) (p0.L.length : Int))
set_option maxRecDepth 100000 in
set_option maxHeartbeats 4000000 in
theorem tree_planned_ok : ∀ (p0 : api_Node) (o : tree_plan), tree_planned p0 = some o → PCall Try.prog 61 [.agg [iV p0.Kind, sV p0.Name, sV p0.Text, iV p0.N, .sl false (p0.L.map c_api_Node), .sl false (p0.Then.map c_api_Node), .sl false (p0.Else.map c_api_Node)]] (t_tree_planned o) := by
  intro p0 o h
  unfold tree_planned at h
  refine PCall.ofB mixed tbOk tree_planned_lv Try.func61 rfl (by kernel_rfl) (Nat.le_of_ble_eq_true rfl) ?_
  refine view (lenMap _ _) rfl ?_
  refine view (lenMap _ _) rfl ?_
  refine view (lenMap _ _) rfl ?_
  refine st_ret (t := t_tree_planned) h ?_
  exact .refl _
mutual
noncomputable def slices_ContainsFunc_api_Node_api_Node_tree_expr_1 (p0 : (List api_Node)) : Option (Bool) :=
  slices_IndexFunc_api_Node_api_Node_tree_expr_1 p0 >>= fun x1 =>
  some (decide (x1 ≥ 0))
  partial_fixpoint
noncomputable def slices_IndexFunc_api_Node_api_Node_tree_expr_1 (p0 : (List api_Node)) : Option (Int) :=
  (slices_IndexFunc_api_Node_api_Node_tree_expr_1_L1 p0 0) >>= fun o1 =>
  match o1 with
  | .inl y2 =>
    some (-1)
  | .inr y3 =>
    some y3
  partial_fixpoint
noncomputable def slices_IndexFunc_api_Node_api_Node_tree_expr_1_L1 (p0 : (List api_Node)) (v8 : Int) : Option (Unit ⊕ Int) :=
  if (decide (v8 < (p0.length : Int))) then
    idx p0 v8 >>= fun x4 =>
    tree_expr_1 x4 >>= fun x5 =>
    if x5 then
      some (.inr v8)
    else
      slices_IndexFunc_api_Node_api_Node_tree_expr_1_L1 p0 (wr (v8 + 1))
  else
    some (.inl ())
  partial_fixpoint
noncomputable def tree_expr_1 (p0 : api_Node) : Option (Bool) :=
  tree_expr p0 >>= fun x1 =>
  some (!x1)
  partial_fixpoint
noncomputable def tree_expr (p0 : api_Node) : Option (Bool) :=
  tree_planned p0 >>= fun x1 =>
  if (p0.Kind == 1) then
    lex_Quote p0.Text >>= fun x2 =>
    ( if x2.2 then
        some ((x1.name_ == false) && ((x1.text_ == x1.text_) && ((x1.num_ == false) && ((x1.then_ == false) && ((x1.other_ == false) && ((x1.l_ == 0) && true))))))
      else
        some false : Option (Bool)) >>= fun o3 =>
    some o3
  else
    if (p0.Kind == 2) then
      some ((x1.name_ == false) && ((x1.text_ == false) && ((x1.num_ == x1.num_) && ((x1.then_ == false) && ((x1.other_ == false) && ((x1.l_ == 0) && true))))))
    else
      if (p0.Kind == 3) then
        ( if ((bits .andNot .i64 p0.N 1) == 0) then
            some ((x1.name_ == false) && ((x1.text_ == false) && ((x1.num_ == x1.num_) && ((x1.then_ == false) && ((x1.other_ == false) && ((x1.l_ == 0) && true))))))
          else
            some false : Option (Bool)) >>= fun o4 =>
        some o4
      else
        if (p0.Kind == 4) then
          ( tree_Name p0.Name >>= fun x6 =>
            if x6 then
              some ((x1.name_ == true) && ((x1.text_ == false) && ((x1.num_ == false) && ((x1.then_ == false) && ((x1.other_ == false) && ((x1.l_ == 0) && true))))))
            else
              some false : Option (Bool)) >>= fun o5 =>
          some o5
        else
          if (p0.Kind == 7) then
            ( lex_Word p0.Name >>= fun x8 =>
              if x8 then
                some ((x1.name_ == true) && ((x1.text_ == false) && ((x1.num_ == false) && ((x1.then_ == false) && ((x1.other_ == false) && ((x1.l_ == 0) && true))))))
              else
                some false : Option (Bool)) >>= fun o7 =>
            some o7
          else
            if (p0.Kind == 5) then
              ( lex_Word p0.Name >>= fun x10 =>
                if x10 then
                  if ((x1.name_ == true) && ((x1.text_ == false) && ((x1.num_ == false) && ((x1.then_ == false) && ((x1.other_ == false) && ((x1.l_ == 1) && true)))))) then
                    idx p0.L 0 >>= fun x11 =>
                    tree_expr x11 >>= fun x12 =>
                    some x12
                  else
                    some false
                else
                  some false : Option (Bool)) >>= fun o9 =>
              some o9
            else
              if (p0.Kind == 6) then
                ( tree_Name p0.Name >>= fun x14 =>
                  if x14 then
                    if ((x1.name_ == true) && ((x1.text_ == false) && ((x1.num_ == false) && ((x1.then_ == false) && ((x1.other_ == false) && ((x1.l_ == (if 3 < x1.l_ then 3 else x1.l_)) && true)))))) then
                      slices_ContainsFunc_api_Node_api_Node_tree_expr_1 p0.L >>= fun x15 =>
                      some (!x15)
                    else
                      some false
                  else
                    some false : Option (Bool)) >>= fun o13 =>
                some o13
              else
                some false
  partial_fixpoint
end
set_option maxRecDepth 100000 in
set_option maxHeartbeats 4000000 in
theorem slices_ContainsFunc_api_Node_api_Node_tree_expr_1_grp : (∀ (p0 : (List api_Node)) (o : Bool), slices_ContainsFunc_api_Node_api_Node_tree_expr_1 p0 = some o → CallOK Try.prog 77 [.p (.sl false (p0.map c_api_Node)), .fn (.func 78) [] []] ⟨[], []⟩ (t_slices_ContainsFunc_api_Node_api_Node_tree_expr_1 o) ⟨[], []⟩) ∧ (∀ (p0 : (List api_Node)) (o : Int), slices_IndexFunc_api_Node_api_Node_tree_expr_1 p0 = some o → CallOK Try.prog 89 [.p (.sl false (p0.map c_api_Node)), .fn (.func 78) [] []] ⟨[], []⟩ (t_slices_IndexFunc_api_Node_api_Node_tree_expr_1 o) ⟨[], []⟩) ∧ (∀ (p0 : (List api_Node)) (v8 : Int) (o1 : Unit ⊕ Int), slices_IndexFunc_api_Node_api_Node_tree_expr_1_L1 p0 v8 = some o1 → TL (0, 0) Try.prog 19 slices_IndexFunc_api_Node_api_Node_tree_expr_1_L1_c (JP2 (0, 0) 19 o1 (.exit 0) (slices_IndexFunc_api_Node_api_Node_tree_expr_1_L1_x0 p0) .ret (slices_IndexFunc_api_Node_api_Node_tree_expr_1_L1_x1 p0)) (slices_IndexFunc_api_Node_api_Node_tree_expr_1_L1_st p0 v8)) ∧ (∀ (p0 : api_Node) (o : Bool), tree_expr_1 p0 = some o → PCall Try.prog 78 [.agg [iV p0.Kind, sV p0.Name, sV p0.Text, iV p0.N, .sl false (p0.L.map c_api_Node), .sl false (p0.Then.map c_api_Node), .sl false (p0.Else.map c_api_Node)]] (t_tree_expr_1 o)) ∧ (∀ (p0 : api_Node) (o : Bool), tree_expr p0 = some o → PCall Try.prog 64 [.agg [iV p0.Kind, sV p0.Name, sV p0.Text, iV p0.N, .sl false (p0.L.map c_api_Node), .sl false (p0.Then.map c_api_Node), .sl false (p0.Else.map c_api_Node)]] (t_tree_expr o)) := by
  refine slices_ContainsFunc_api_Node_api_Node_tree_expr_1.mutual_partial_correctness _ _ _ _ _ ?_ ?_ ?_ ?_ ?_
  · intro slices_IndexFunc_api_Node_api_Node_tree_expr_1' ih_slices_IndexFunc_api_Node_api_Node_tree_expr_1 p0 o h
    refine CallOK.ofB mixed tbOk slices_ContainsFunc_api_Node_api_Node_tree_expr_1_lv Try.func77 rfl (by kernel_rfl) (Nat.le_of_ble_eq_true rfl) rfl rfl rfl ?_
    refine st_callc _ _ h (fun x1 hy => ((ih_slices_IndexFunc_api_Node_api_Node_tree_expr_1 p0 x1 hy).fr [] [] rfl rfl rfl)) (fun x1 hy h => ?_)
    refine Exists.intro _ (And.intro (Le.refl _ _ _) ?_)
    exact st_retc (t := t_slices_ContainsFunc_api_Node_api_Node_tree_expr_1) (ss := fun o => ⟨[], []⟩) h ⟨[], rfl, .refl _, .refl _, rfl⟩
  · intro slices_IndexFunc_api_Node_api_Node_tree_expr_1_L1' ih_slices_IndexFunc_api_Node_api_Node_tree_expr_1_L1 p0 o h
    refine CallOK.ofB mixed tbOk slices_IndexFunc_api_Node_api_Node_tree_expr_1_lv Try.func89 rfl (by kernel_rfl) (Nat.le_of_ble_eq_true rfl) rfl rfl rfl ?_
    refine view (lenMap _ _) rfl ?_
    refine st_bind h (fun o1 ho hk => ?_)
    refine Exists.intro (JP2 _ _ o1 (.exit 0) (slices_IndexFunc_api_Node_api_Node_tree_expr_1_L1_x0 p0) .ret (slices_IndexFunc_api_Node_api_Node_tree_expr_1_L1_x1 p0)) (And.intro (T_le (τ := slices_IndexFunc_api_Node_api_Node_tree_expr_1_L1_st p0 0) ?_ (TL.loop (ih_slices_IndexFunc_api_Node_api_Node_tree_expr_1_L1 p0 0 o1 ho))) (join2 (fun y2 hy => ?_) (fun y3 hy => ?_)))
    · exact Le.tow 0 0 rfl (.cons rfl (.refl _) (.cons rfl (.refl _) (.cons rfl (.refl _) (.cons rfl (.refl _) (.nil))))) (.refl _) rfl
    · have h := (by rw [hy] at hk; exact hk)
      refine Exists.intro _ (And.intro (Le.refl _ _ _) ?_)
      exact st_retc (t := t_slices_IndexFunc_api_Node_api_Node_tree_expr_1) (ss := fun o => ⟨[], []⟩) h ⟨[], rfl, .refl _, .refl _, rfl⟩
    · have h := (by rw [hy] at hk; exact hk)
      refine Exists.intro _ (And.intro (Le.refl _ _ _) ?_)
      exact st_retc (t := t_slices_IndexFunc_api_Node_api_Node_tree_expr_1) (ss := fun o => ⟨[], []⟩) h ⟨[], rfl, .refl _, .refl _, rfl⟩
  · intro slices_IndexFunc_api_Node_api_Node_tree_expr_1_L1' tree_expr_1' ih_slices_IndexFunc_api_Node_api_Node_tree_expr_1_L1 ih_tree_expr_1 p0 v8 o1 h
    refine TL.round (bwp_sound mixed tbOk (lv := slices_IndexFunc_api_Node_api_Node_tree_expr_1_lv) _ _ _ ?_)
    refine st_test h (fun hb h => ?_) (fun hb h => ?_)
    · refine st_idx (l := p0) (c := c_api_Node) (c' := l_api_Node) h c_api_Node_eq (fun _ => rfl) (by decide) (fun x4 hi h => ?_)
      refine st_call [.agg [iV x4.Kind, sV x4.Name, sV x4.Text, iV x4.N, .sl false (x4.L.map c_api_Node), .sl false (x4.Then.map c_api_Node), .sl false (x4.Else.map c_api_Node)]] t_tree_expr_1 h (fun x5 hy => (ih_tree_expr_1 x4 x5 hy)) (fun x5 hy h => ?_)
      refine st_test h (fun hb h => ?_) (fun hb h => ?_)
      · exact JP2.b h (Le.tow 0 0 rfl (.cons rfl (.refl _) (.nil)) (.refl _) rfl)
      · refine TL.le (τ := slices_IndexFunc_api_Node_api_Node_tree_expr_1_L1_st p0 (wr (v8 + 1))) ?_ ((ih_slices_IndexFunc_api_Node_api_Node_tree_expr_1_L1 p0 (wr (v8 + 1)) _ h))
        exact Le.tow 0 0 rfl (.cons rfl (.refl _) (.cons rfl (.refl _) (.cons rfl (.refl _) (.cons rfl (.refl _) (.nil))))) (.refl _) rfl
    · exact JP2.a h (Le.tow 0 0 rfl (.nil) (.refl _) rfl)
  · intro tree_expr' ih_tree_expr p0 o h
    refine PCall.ofB mixed tbOk tree_expr_1_lv Try.func78 rfl (by kernel_rfl) (Nat.le_of_ble_eq_true rfl) ?_
    refine st_call [.agg [iV p0.Kind, sV p0.Name, sV p0.Text, iV p0.N, .sl false (p0.L.map c_api_Node), .sl false (p0.Then.map c_api_Node), .sl false (p0.Else.map c_api_Node)]] t_tree_expr h (fun x1 hy => (ih_tree_expr p0 x1 hy)) (fun x1 hy h => ?_)
    refine st_ret (t := t_tree_expr_1) h ?_
    exact .refl _
  · intro slices_ContainsFunc_api_Node_api_Node_tree_expr_1' tree_expr' ih_slices_ContainsFunc_api_Node_api_Node_tree_expr_1 ih_tree_expr p0 o h
    refine PCall.ofB mixed tbOk tree_expr_lv Try.func64 rfl (by kernel_rfl) (Nat.le_of_ble_eq_true rfl) ?_
    refine st_call [.agg [iV p0.Kind, sV p0.Name, sV p0.Text, iV p0.N, .sl false (p0.L.map c_api_Node), .sl false (p0.Then.map c_api_Node), .sl false (p0.Else.map c_api_Node)]] t_tree_planned h (fun x1 hy => (tree_planned_ok p0 x1 hy)) (fun x1 hy h => ?_)
    refine st_test h (fun hb h => ?_) (fun hb h => ?_)
    · refine st_call [sV p0.Text] t_lex_Quote h (fun x2 hy => (lex_Quote_ok p0.Text x2 hy)) (fun x2 hy h => ?_)
      refine st_bind h (fun o3 ho hk => ?_)
      refine Exists.intro (JP1 _ _ o3 .normal (tree_expr_J0_0 p0 x1)) (And.intro ?_ (join1 ?_))
      · have h := ho
        refine st_test h (fun hb h => ?_) (fun hb h => ?_)
        · refine And.intro rfl ?_
          refine JP1.a h ?_
          exact Le.tow 3 0 rfl (.cons rfl (.refl _) (.nil)) (.refl _) rfl
        · refine JP1.a h ?_
          exact Le.tow 3 0 rfl (.cons rfl (.refl _) (.nil)) (.refl _) rfl
      · have h := hk
        refine st_ret (t := t_tree_expr) h ?_
        exact .refl _
    · refine st_test h (fun hb h => ?_) (fun hb h => ?_)
      · refine And.intro rfl ?_
        refine st_ret (t := t_tree_expr) h ?_
        exact .refl _
      · refine st_test h (fun hb h => ?_) (fun hb h => ?_)
        · refine st_bind h (fun o4 ho hk => ?_)
          refine Exists.intro (JP1 _ _ o4 .normal (tree_expr_J1_0 p0 x1)) (And.intro ?_ (join1 ?_))
          · have h := ho
            refine st_test h (fun hb h => ?_) (fun hb h => ?_)
            · refine And.intro rfl ?_
              refine JP1.a h ?_
              exact Le.tow 3 0 rfl (.cons rfl (.refl _) (.nil)) (.refl _) rfl
            · refine JP1.a h ?_
              exact Le.tow 3 0 rfl (.cons rfl (.refl _) (.nil)) (.refl _) rfl
          · have h := hk
            refine st_ret (t := t_tree_expr) h ?_
            exact .refl _
        · refine st_test h (fun hb h => ?_) (fun hb h => ?_)
          · refine st_bind h (fun o5 ho hk => ?_)
            refine Exists.intro (JP1 _ _ o5 .normal (tree_expr_J2_0 p0 x1)) (And.intro ?_ (join1 ?_))
            · have h := ho
              refine st_call [sV p0.Name] t_tree_Name h (fun x6 hy => (tree_Name_ok p0.Name x6 hy)) (fun x6 hy h => ?_)
              refine st_test h (fun hb h => ?_) (fun hb h => ?_)
              · refine And.intro rfl ?_
                refine JP1.a h ?_
                exact Le.tow 3 0 rfl (.cons rfl (.refl _) (.nil)) (.refl _) rfl
              · refine JP1.a h ?_
                exact Le.tow 3 0 rfl (.cons rfl (.refl _) (.nil)) (.refl _) rfl
            · have h := hk
              refine st_ret (t := t_tree_expr) h ?_
              exact .refl _
          · refine st_test h (fun hb h => ?_) (fun hb h => ?_)
            · refine st_bind h (fun o7 ho hk => ?_)
              refine Exists.intro (JP1 _ _ o7 .normal (tree_expr_J3_0 p0 x1)) (And.intro ?_ (join1 ?_))
              · have h := ho
                refine st_call [sV p0.Name] t_lex_Word h (fun x8 hy => (lex_Word_ok p0.Name x8 hy)) (fun x8 hy h => ?_)
                refine st_test h (fun hb h => ?_) (fun hb h => ?_)
                · refine And.intro rfl ?_
                  refine JP1.a h ?_
                  exact Le.tow 3 0 rfl (.cons rfl (.refl _) (.nil)) (.refl _) rfl
                · refine JP1.a h ?_
                  exact Le.tow 3 0 rfl (.cons rfl (.refl _) (.nil)) (.refl _) rfl
              · have h := hk
                refine st_ret (t := t_tree_expr) h ?_
                exact .refl _
            · refine st_test h (fun hb h => ?_) (fun hb h => ?_)
              · refine st_bind h (fun o9 ho hk => ?_)
                refine Exists.intro (JP1 _ _ o9 .normal (tree_expr_J4_0 p0 x1)) (And.intro ?_ (join1 ?_))
                · have h := ho
                  refine st_call [sV p0.Name] t_lex_Word h (fun x10 hy => (lex_Word_ok p0.Name x10 hy)) (fun x10 hy h => ?_)
                  refine st_test h (fun hb h => ?_) (fun hb h => ?_)
                  · refine And.intro rfl ?_
                    refine st_test h (fun hb h => ?_) (fun hb h => ?_)
                    · refine st_idx (l := p0.L) (c := c_api_Node) (c' := l_api_Node) h c_api_Node_eq (fun _ => rfl) (by decide) (fun x11 hi h => ?_)
                      refine st_call [.agg [iV x11.Kind, sV x11.Name, sV x11.Text, iV x11.N, .sl false (x11.L.map c_api_Node), .sl false (x11.Then.map c_api_Node), .sl false (x11.Else.map c_api_Node)]] t_tree_expr h (fun x12 hy => (ih_tree_expr x11 x12 hy)) (fun x12 hy h => ?_)
                      refine JP1.a h ?_
                      exact Le.tow 3 0 rfl (.cons rfl (.refl _) (.nil)) (.refl _) rfl
                    · refine JP1.a h ?_
                      exact Le.tow 3 0 rfl (.cons rfl (.refl _) (.nil)) (.refl _) rfl
                  · refine bF ?_
                    refine JP1.a h ?_
                    exact Le.tow 3 0 rfl (.cons rfl (.refl _) (.nil)) (.refl _) rfl
                · have h := hk
                  refine st_ret (t := t_tree_expr) h ?_
                  exact .refl _
              · refine st_test h (fun hb h => ?_) (fun hb h => ?_)
                · refine st_bind h (fun o13 ho hk => ?_)
                  refine Exists.intro (JP1 _ _ o13 .normal (tree_expr_J5_0 p0 x1)) (And.intro ?_ (join1 ?_))
                  · have h := ho
                    refine st_call [sV p0.Name] t_tree_Name h (fun x14 hy => (tree_Name_ok p0.Name x14 hy)) (fun x14 hy h => ?_)
                    refine st_test h (fun hb h => ?_) (fun hb h => ?_)
                    · refine And.intro rfl ?_
                      refine st_test h (fun hb h => ?_) (fun hb h => ?_)
                      · refine st_callc _ _ h (fun x15 hy => ((ih_slices_ContainsFunc_api_Node_api_Node_tree_expr_1 p0.L x15 hy).fr [] [] rfl rfl rfl)) (fun x15 hy h => ?_)
                        refine JP1.a h ?_
                        exact Le.tow 3 0 rfl (.cons rfl (.refl _) (.nil)) (.refl _) rfl
                      · refine JP1.a h ?_
                        exact Le.tow 3 0 rfl (.cons rfl (.refl _) (.nil)) (.refl _) rfl
                    · refine bF ?_
                      refine JP1.a h ?_
                      exact Le.tow 3 0 rfl (.cons rfl (.refl _) (.nil)) (.refl _) rfl
                  · have h := hk
                    refine st_ret (t := t_tree_expr) h ?_
                    exact .refl _
                · refine st_ret (t := t_tree_expr) h ?_
                  exact .refl _
theorem tree_expr_ok : ∀ (p0 : api_Node) (o : Bool), tree_expr p0 = some o → PCall Try.prog 64 [.agg [iV p0.Kind, sV p0.Name, sV p0.Text, iV p0.N, .sl false (p0.L.map c_api_Node), .sl false (p0.Then.map c_api_Node), .sl false (p0.Else.map c_api_Node)]] (t_tree_expr o) := fun p0 o h => slices_ContainsFunc_api_Node_api_Node_tree_expr_1_grp.2.2.2.2 p0 o h
mutual
noncomputable def tree_block (p0 : (List api_Node)) (p1 : Bool) : Option (Bool) :=
  (tree_block_L1 p0 p1 0) >>= fun o1 =>
  match o1 with
  | .inl y2 =>
    some true
  | .inr y3 =>
    some false
  partial_fixpoint
noncomputable def tree_block_L1 (p0 : (List api_Node)) (p1 : Bool) (v10 : Int) : Option (Unit ⊕ Unit) :=
  if (decide (v10 < (p0.length : Int))) then
    idx p0 v10 >>= fun x4 =>
    tree_stmt x4 >>= fun x5 =>
    if (!x5) then
      some (.inr ())
    else
      ( if (x4.Kind == 8) then
          if (!(v10 == (wr ((p0.length : Int) - 1)))) then
            idx p0 (wr (v10 + 1)) >>= fun x7 =>
            if (x7.Kind == 8) then
              some true
            else
              if (v10 == (wr ((p0.length : Int) - 1))) then
                if (!p1) then
                  strings_HasSuffix x4.Text [123] >>= fun x8 =>
                  some x8
                else
                  some false
              else
                strings_HasSuffix x4.Text [123] >>= fun x9 =>
                some x9
          else
            if (v10 == (wr ((p0.length : Int) - 1))) then
              if (!p1) then
                strings_HasSuffix x4.Text [123] >>= fun x10 =>
                some x10
              else
                some false
            else
              strings_HasSuffix x4.Text [123] >>= fun x11 =>
              some x11
        else
          some false : Option (Bool)) >>= fun o6 =>
      if o6 then
        some (.inr ())
      else
        tree_block_L1 p0 p1 (wr (v10 + 1))
  else
    some (.inl ())
  partial_fixpoint
noncomputable def tree_stmt (p0 : api_Node) : Option (Bool) :=
  tree_planned p0 >>= fun x1 =>
  ( if (p0.Kind == 8) then
      ( if ((x1.name_ == false) && ((x1.text_ == true) && ((x1.num_ == false) && ((x1.then_ == false) && ((x1.other_ == false) && ((x1.l_ == 0) && true)))))) then
          strings_Contains p0.Text [123, 123] >>= fun x6 =>
          some (!x6)
        else
          some false : Option (Bool)) >>= fun o5 =>
      some (.inr o5)
    else
      if (p0.Kind == 9) then
        some (.inl (false, false, false))
      else
        if (p0.Kind == 10) then
          some (.inl (false, x1.then_, x1.other_))
        else
          ( if (p0.Kind == 11) then
              some (p0.Kind == 11)
            else
              some (p0.Kind == 12) : Option (Bool)) >>= fun o7 =>
          if o7 then
            tree_Name p0.Name >>= fun x8 =>
            some (.inl (x8, x1.then_, false))
          else
            if (p0.Kind == 13) then
              tree_Name p0.Name >>= fun x9 =>
              some (.inl (x9, false, false))
            else
              some (.inr false) : Option ((Bool × Bool × Bool) ⊕ Bool)) >>= fun o2 =>
  match o2 with
  | .inl y3 =>
    ( if (p0.Kind == 11) then
        some true
      else
        if (p0.Kind == 12) then
          some true
        else
          some (p0.Kind == 13) : Option (Bool)) >>= fun o10 =>
    ( if (y3.1 == o10) then
        if ((x1.name_ == y3.1) && ((x1.text_ == false) && ((x1.num_ == false) && ((x1.then_ == y3.2.1) && ((x1.other_ == y3.2.2) && ((x1.l_ == 1) && true)))))) then
          idx p0.L 0 >>= fun x12 =>
          tree_expr x12 >>= fun x13 =>
          if x13 then
            tree_block p0.Then false >>= fun x14 =>
            if x14 then
              tree_block p0.Else false >>= fun x15 =>
              some x15
            else
              some false
          else
            some false
        else
          some false
      else
        some false : Option (Bool)) >>= fun o11 =>
    some o11
  | .inr y4 =>
    some y4
  partial_fixpoint
end
set_option maxRecDepth 100000 in
set_option maxHeartbeats 4000000 in
theorem tree_block_grp : (∀ (p0 : (List api_Node)) (p1 : Bool) (o : Bool), tree_block p0 p1 = some o → PCall Try.prog 40 [.sl false (p0.map c_api_Node), bV p1] (t_tree_block o)) ∧ (∀ (p0 : (List api_Node)) (p1 : Bool) (v10 : Int) (o1 : Unit ⊕ Unit), tree_block_L1 p0 p1 v10 = some o1 → TL (0, 0) Try.prog 52 tree_block_L1_c (JP2 (0, 0) 52 o1 (.exit 0) (tree_block_L1_x0 p0 p1) .ret (tree_block_L1_x1 p0 p1)) (tree_block_L1_st p0 p1 v10)) ∧ (∀ (p0 : api_Node) (o : Bool), tree_stmt p0 = some o → PCall Try.prog 52 [.agg [iV p0.Kind, sV p0.Name, sV p0.Text, iV p0.N, .sl false (p0.L.map c_api_Node), .sl false (p0.Then.map c_api_Node), .sl false (p0.Else.map c_api_Node)]] (t_tree_stmt o)) := by
  refine tree_block.mutual_partial_correctness _ _ _ ?_ ?_ ?_
  · intro tree_block_L1' ih_tree_block_L1 p0 p1 o h
    refine PCall.ofB mixed tbOk tree_block_lv Try.func40 rfl (by kernel_rfl) (Nat.le_of_ble_eq_true rfl) ?_
    refine view (lenMap _ _) rfl ?_
    refine st_bind h (fun o1 ho hk => ?_)
    refine Exists.intro (JP2 _ _ o1 (.exit 0) (tree_block_L1_x0 p0 p1) .ret (tree_block_L1_x1 p0 p1)) (And.intro (T_le (τ := tree_block_L1_st p0 p1 0) ?_ (TL.loop (ih_tree_block_L1 p0 p1 0 o1 ho))) (join2 (fun y2 hy => ?_) (fun y3 hy => ?_)))
    · exact Le.tow 0 0 rfl (.cons rfl (.refl _) (.cons rfl (.refl _) (.cons rfl (.refl _) (.cons rfl (.refl _) (.cons rfl (.refl _) (.nil)))))) (.refl _) rfl
    · have h := (by rw [hy] at hk; exact hk)
      refine st_ret (t := t_tree_block) h ?_
      exact .refl _
    · have h := (by rw [hy] at hk; exact hk)
      refine st_ret (t := t_tree_block) h ?_
      exact .refl _
  · intro tree_block_L1' tree_stmt' ih_tree_block_L1 ih_tree_stmt p0 p1 v10 o1 h
    refine TL.round (bwp_sound mixed tbOk (lv := tree_block_lv) _ _ _ ?_)
    refine st_test h (fun hb h => ?_) (fun hb h => ?_)
    · refine st_idx (l := p0) (c := c_api_Node) (c' := l_api_Node) h c_api_Node_eq (fun _ => rfl) (by decide) (fun x4 hi h => ?_)
      refine st_call [.agg [iV x4.Kind, sV x4.Name, sV x4.Text, iV x4.N, .sl false (x4.L.map c_api_Node), .sl false (x4.Then.map c_api_Node), .sl false (x4.Else.map c_api_Node)]] t_tree_stmt h (fun x5 hy => (ih_tree_stmt x4 x5 hy)) (fun x5 hy h => ?_)
      refine st_test h (fun hb h => ?_) (fun hb h => ?_)
      · exact JP2.b h (Le.tow 0 0 rfl (.cons rfl (.refl _) (.nil)) (.refl _) rfl)
      · refine view (lenMap _ _) rfl ?_
        refine st_bind h (fun o6 ho hk => ?_)
        refine Exists.intro (JP1 _ _ o6 .normal (tree_block_J0_0 p0 p1 v10 x4)) (And.intro ?_ (join1 ?_))
        · have h := ho
          refine st_test h (fun hb h => ?_) (fun hb h => ?_)
          · refine st_test h (fun hb h => ?_) (fun hb h => ?_)
            · refine st_idx (l := p0) (c := c_api_Node) (c' := l_api_Node) h c_api_Node_eq (fun _ => rfl) (by decide) (fun x7 hi h => ?_)
              refine st_test h (fun hb h => ?_) (fun hb h => ?_)
              · refine JP1.a h ?_
                exact Le.tow 1 0 rfl (.cons rfl (.refl _) (.cons rfl (.refl _) (.cons rfl (.refl _) (.cons rfl (.refl _) (.cons rfl (.refl _) (.cons rfl (.refl _) (.nil))))))) (.refl _) rfl
              · refine st_test h (fun hb h => ?_) (fun hb h => ?_)
                · refine st_test h (fun hb h => ?_) (fun hb h => ?_)
                  · refine st_call [sV x4.Text, sV [123]] t_strings_HasSuffix h (fun x8 hy => (strings_HasSuffix_ok x4.Text [123] x8 hy)) (fun x8 hy h => ?_)
                    refine JP1.a h ?_
                    exact Le.tow 1 0 rfl (.cons rfl (.refl _) (.cons rfl (.refl _) (.cons rfl (.refl _) (.cons rfl (.refl _) (.cons rfl (.refl _) (.cons rfl (.refl _) (.nil))))))) (.refl _) rfl
                  · refine JP1.a h ?_
                    exact Le.tow 1 0 rfl (.cons rfl (.refl _) (.cons rfl (.refl _) (.cons rfl (.refl _) (.cons rfl (.refl _) (.cons rfl (.refl _) (.cons rfl (.refl _) (.nil))))))) (.refl _) rfl
                · refine bT ?_
                  refine st_call [sV x4.Text, sV [123]] t_strings_HasSuffix h (fun x9 hy => (strings_HasSuffix_ok x4.Text [123] x9 hy)) (fun x9 hy h => ?_)
                  refine JP1.a h ?_
                  exact Le.tow 1 0 rfl (.cons rfl (.refl _) (.cons rfl (.refl _) (.cons rfl (.refl _) (.cons rfl (.refl _) (.cons rfl (.refl _) (.cons rfl (.refl _) (.nil))))))) (.refl _) rfl
            · refine bF ?_
              refine st_test h (fun hb h => ?_) (fun hb h => ?_)
              · refine st_test h (fun hb h => ?_) (fun hb h => ?_)
                · refine st_call [sV x4.Text, sV [123]] t_strings_HasSuffix h (fun x10 hy => (strings_HasSuffix_ok x4.Text [123] x10 hy)) (fun x10 hy h => ?_)
                  refine JP1.a h ?_
                  exact Le.tow 1 0 rfl (.cons rfl (.refl _) (.cons rfl (.refl _) (.cons rfl (.refl _) (.cons rfl (.refl _) (.cons rfl (.refl _) (.cons rfl (.refl _) (.nil))))))) (.refl _) rfl
                · refine JP1.a h ?_
                  exact Le.tow 1 0 rfl (.cons rfl (.refl _) (.cons rfl (.refl _) (.cons rfl (.refl _) (.cons rfl (.refl _) (.cons rfl (.refl _) (.cons rfl (.refl _) (.nil))))))) (.refl _) rfl
              · refine bT ?_
                refine st_call [sV x4.Text, sV [123]] t_strings_HasSuffix h (fun x11 hy => (strings_HasSuffix_ok x4.Text [123] x11 hy)) (fun x11 hy h => ?_)
                refine JP1.a h ?_
                exact Le.tow 1 0 rfl (.cons rfl (.refl _) (.cons rfl (.refl _) (.cons rfl (.refl _) (.cons rfl (.refl _) (.cons rfl (.refl _) (.cons rfl (.refl _) (.nil))))))) (.refl _) rfl
          · refine JP1.a h ?_
            exact Le.tow 1 0 rfl (.cons rfl (.refl _) (.cons rfl (.refl _) (.cons rfl (.refl _) (.cons rfl (.refl _) (.cons rfl (.refl _) (.cons rfl (.refl _) (.nil))))))) (.refl _) rfl
        · have h := hk
          refine st_test h (fun hb h => ?_) (fun hb h => ?_)
          · exact JP2.b h (Le.tow 0 0 rfl (.cons rfl (.refl _) (.nil)) (.refl _) rfl)
          · refine TL.le (τ := tree_block_L1_st p0 p1 (wr (v10 + 1))) ?_ ((ih_tree_block_L1 p0 p1 (wr (v10 + 1)) _ h))
            exact Le.tow 0 0 rfl (.cons rfl (.refl _) (.cons rfl (.refl _) (.cons rfl (.refl _) (.cons rfl (.refl _) (.cons rfl (.refl _) (.nil)))))) (.refl _) rfl
    · exact JP2.a h (Le.tow 0 0 rfl (.nil) (.refl _) rfl)
  · intro tree_block' ih_tree_block p0 o h
    refine PCall.ofB mixed tbOk tree_stmt_lv Try.func52 rfl (by kernel_rfl) (Nat.le_of_ble_eq_true rfl) ?_
    refine st_call [.agg [iV p0.Kind, sV p0.Name, sV p0.Text, iV p0.N, .sl false (p0.L.map c_api_Node), .sl false (p0.Then.map c_api_Node), .sl false (p0.Else.map c_api_Node)]] t_tree_planned h (fun x1 hy => (tree_planned_ok p0 x1 hy)) (fun x1 hy h => ?_)
    refine st_bind h (fun o2 ho hk => ?_)
    refine Exists.intro (JP2 _ _ o2 .normal (tree_stmt_J0_0 p0 x1) .ret (tree_stmt_J0_1 p0 x1)) (And.intro ?_ (join2 (fun y3 hy => ?_) (fun y4 hy => ?_)))
    · have h := ho
      refine st_test h (fun hb h => ?_) (fun hb h => ?_)
      · refine st_bind h (fun o5 ho hk => ?_)
        refine Exists.intro (JP1 _ _ o5 .normal (tree_stmt_J1_0 p0 x1)) (And.intro ?_ (join1 ?_))
        · have h := ho
          refine And.intro rfl ?_
          refine st_test h (fun hb h => ?_) (fun hb h => ?_)
          · refine st_call [sV p0.Text, sV [123, 123]] t_strings_Contains h (fun x6 hy => (strings_Contains_ok p0.Text [123, 123] x6 hy)) (fun x6 hy h => ?_)
            refine JP1.a h ?_
            exact Le.tow 3 0 rfl (.cons rfl (.refl _) (.nil)) (.refl _) rfl
          · refine JP1.a h ?_
            exact Le.tow 3 0 rfl (.cons rfl (.refl _) (.nil)) (.refl _) rfl
        · have h := hk
          refine JP2.b h ?_
          exact Le.tow 3 0 rfl (.cons rfl (.refl _) (.nil)) (.refl _) rfl
      · refine st_test h (fun hb h => ?_) (fun hb h => ?_)
        · refine JP2.a h ?_
          exact Le.tow 3 0 rfl (.cons rfl (.refl _) (.cons rfl (.refl _) (.cons rfl (.refl _) (.nil)))) (.refl _) rfl
        · refine st_test h (fun hb h => ?_) (fun hb h => ?_)
          · refine And.intro (by decide +kernel) (And.intro rfl ?_)
            refine JP2.a h ?_
            exact Le.tow 3 0 rfl (.cons rfl (.refl _) (.cons rfl (.refl _) (.cons rfl (.refl _) (.nil)))) (.refl _) rfl
          · refine st_bind h (fun o7 ho hk => ?_)
            refine Exists.intro (JP1 _ _ o7 .normal (tree_stmt_J2_0 p0 x1)) (And.intro ?_ (join1 ?_))
            · have h := ho
              refine st_test h (fun hb h => ?_) (fun hb h => ?_)
              · refine JP1.a h ?_
                exact Le.tow 3 0 rfl (.cons rfl (.refl _) (.cons rfl (.refl _) (.cons rfl (.refl _) (.cons rfl (.refl _) (.cons rfl (.refl _) (.nil)))))) (.refl _) rfl
              · refine JP1.a h ?_
                exact Le.tow 3 0 rfl (.cons rfl (.refl _) (.cons rfl (.refl _) (.cons rfl (.refl _) (.cons rfl (.refl _) (.cons rfl (.refl _) (.nil)))))) (.refl _) rfl
            · have h := hk
              refine st_test h (fun hb h => ?_) (fun hb h => ?_)
              · refine And.intro (by decide +kernel) (And.intro rfl ?_)
                refine st_calld [sV p0.Name] t_tree_Name h (fun x8 hy => (tree_Name_ok p0.Name x8 hy)) (fun x8 hy h => ?_)
                refine JP2.a h ?_
                exact Le.tow 3 0 rfl (.cons rfl (.refl _) (.cons rfl (.refl _) (.cons rfl (.refl _) (.nil)))) (.refl _) rfl
              · refine st_test h (fun hb h => ?_) (fun hb h => ?_)
                · refine st_call [sV p0.Name] t_tree_Name h (fun x9 hy => (tree_Name_ok p0.Name x9 hy)) (fun x9 hy h => ?_)
                  refine JP2.a h ?_
                  exact Le.tow 3 0 rfl (.cons rfl (.refl _) (.cons rfl (.refl _) (.cons rfl (.refl _) (.nil)))) (.refl _) rfl
                · refine JP2.b h ?_
                  exact Le.tow 3 0 rfl (.cons rfl (.refl _) (.nil)) (.refl _) rfl
    · have h := (by rw [hy] at hk; exact hk)
      refine st_bind h (fun o10 ho hk => ?_)
      refine Exists.intro (JP1 _ _ o10 .normal (tree_stmt_J3_0 p0 x1 y3)) (And.intro ?_ (join1 ?_))
      · have h := ho
        refine st_test h (fun hb h => ?_) (fun hb h => ?_)
        · refine bT ?_
          refine JP1.a h ?_
          exact Le.tow 3 0 rfl (.cons rfl (.refl _) (.cons rfl (.refl _) (.cons rfl (.refl _) (.cons rfl (.refl _) (.nil))))) (.refl _) rfl
        · refine st_test h (fun hb h => ?_) (fun hb h => ?_)
          · refine JP1.a h ?_
            exact Le.tow 3 0 rfl (.cons rfl (.refl _) (.cons rfl (.refl _) (.cons rfl (.refl _) (.cons rfl (.refl _) (.nil))))) (.refl _) rfl
          · refine JP1.a h ?_
            exact Le.tow 3 0 rfl (.cons rfl (.refl _) (.cons rfl (.refl _) (.cons rfl (.refl _) (.cons rfl (.refl _) (.nil))))) (.refl _) rfl
      · have h := hk
        refine st_bind h (fun o11 ho hk => ?_)
        refine Exists.intro (JP1 _ _ o11 .normal (tree_stmt_J4_0 p0 x1 y3)) (And.intro ?_ (join1 ?_))
        · have h := ho
          refine st_test h (fun hb h => ?_) (fun hb h => ?_)
          · refine And.intro rfl ?_
            refine st_test h (fun hb h => ?_) (fun hb h => ?_)
            · refine st_idx (l := p0.L) (c := c_api_Node) (c' := l_api_Node) h c_api_Node_eq (fun _ => rfl) (by decide) (fun x12 hi h => ?_)
              refine st_call [.agg [iV x12.Kind, sV x12.Name, sV x12.Text, iV x12.N, .sl false (x12.L.map c_api_Node), .sl false (x12.Then.map c_api_Node), .sl false (x12.Else.map c_api_Node)]] t_tree_expr h (fun x13 hy => (tree_expr_ok x12 x13 hy)) (fun x13 hy h => ?_)
              refine st_test h (fun hb h => ?_) (fun hb h => ?_)
              · refine st_call [.sl false (p0.Then.map c_api_Node), bV false] t_tree_block h (fun x14 hy => (ih_tree_block p0.Then false x14 hy)) (fun x14 hy h => ?_)
                refine st_test h (fun hb h => ?_) (fun hb h => ?_)
                · refine st_call [.sl false (p0.Else.map c_api_Node), bV false] t_tree_block h (fun x15 hy => (ih_tree_block p0.Else false x15 hy)) (fun x15 hy h => ?_)
                  refine JP1.a h ?_
                  exact Le.tow 3 0 rfl (.cons rfl (.refl _) (.nil)) (.refl _) rfl
                · refine JP1.a h ?_
                  exact Le.tow 3 0 rfl (.cons rfl (.refl _) (.nil)) (.refl _) rfl
              · refine bF ?_
                refine JP1.a h ?_
                exact Le.tow 3 0 rfl (.cons rfl (.refl _) (.nil)) (.refl _) rfl
            · refine bF ?_
              refine bF ?_
              refine JP1.a h ?_
              exact Le.tow 3 0 rfl (.cons rfl (.refl _) (.nil)) (.refl _) rfl
          · refine bF ?_
            refine bF ?_
            refine bF ?_
            refine JP1.a h ?_
            exact Le.tow 3 0 rfl (.cons rfl (.refl _) (.nil)) (.refl _) rfl
        · have h := hk
          refine st_ret (t := t_tree_stmt) h ?_
          exact .refl _
    · have h := (by rw [hy] at hk; exact hk)
      refine st_ret (t := t_tree_stmt) h ?_
      exact .refl _
theorem tree_block_ok : ∀ (p0 : (List api_Node)) (p1 : Bool) (o : Bool), tree_block p0 p1 = some o → PCall Try.prog 40 [.sl false (p0.map c_api_Node), bV p1] (t_tree_block o) := fun p0 p1 o h => tree_block_grp.1 p0 p1 o h
noncomputable def tree_Is (p0 : (List api_Node)) : Option (Bool) :=
  ( tree_Deep p0 >>= fun x2 =>
    if (decide (x2 ≤ 12)) then
      tree_Count p0 >>= fun x3 =>
      if (decide (x3 ≤ 1024)) then
        tree_block p0 true >>= fun x4 =>
        some x4
      else
        some false
    else
      some false : Option (Bool)) >>= fun o1 =>
  some o1
set_option maxRecDepth 100000 in
set_option maxHeartbeats 4000000 in
theorem tree_Is_ok : ∀ (p0 : (List api_Node)) (o : Bool), tree_Is p0 = some o → PCall Try.prog 19 [.sl false (p0.map c_api_Node)] (t_tree_Is o) := by
  intro p0 o h
  unfold tree_Is at h
  refine PCall.ofB mixed tbOk tree_Is_lv Try.func19 rfl (by kernel_rfl) (Nat.le_of_ble_eq_true rfl) ?_
  refine st_bind h (fun o1 ho hk => ?_)
  refine Exists.intro (JP1 _ _ o1 .normal (tree_Is_J0_0 )) (And.intro ?_ (join1 ?_))
  · have h := ho
    refine st_call [.sl false (p0.map c_api_Node)] t_tree_Deep h (fun x2 hy => (tree_Deep_ok p0 x2 hy)) (fun x2 hy h => ?_)
    refine st_test h (fun hb h => ?_) (fun hb h => ?_)
    · refine st_call [.sl false (p0.map c_api_Node)] t_tree_Count h (fun x3 hy => (tree_Count_ok p0 x3 hy)) (fun x3 hy h => ?_)
      refine st_test h (fun hb h => ?_) (fun hb h => ?_)
      · refine st_call [.sl false (p0.map c_api_Node), bV true] t_tree_block h (fun x4 hy => (tree_block_ok p0 true x4 hy)) (fun x4 hy h => ?_)
        refine JP1.a h ?_
        exact Le.tow 0 0 rfl (.cons rfl (.refl _) (.nil)) (.refl _) rfl
      · refine JP1.a h ?_
        exact Le.tow 0 0 rfl (.cons rfl (.refl _) (.nil)) (.refl _) rfl
    · refine bF ?_
      refine JP1.a h ?_
      exact Le.tow 0 0 rfl (.cons rfl (.refl _) (.nil)) (.refl _) rfl
  · have h := hk
    refine st_ret (t := t_tree_Is) h ?_
    exact .refl _
noncomputable def octet_Text (p0 : Int) : Option ((List UInt8)) :=
  need (-9223372036854775808 ≤ p0) >>= fun _ =>
  need (p0 ≤ 9223372036854775807) >>= fun _ =>
  some (textL p0)
set_option maxRecDepth 100000 in
set_option maxHeartbeats 4000000 in
theorem octet_Text_ok : ∀ (p0 : Int) (o : (List UInt8)), octet_Text p0 = some o → PCall Try.prog 68 [iV p0] (t_octet_Text o) := by
  intro p0 o h
  unfold octet_Text at h
  obtain ⟨h1, h⟩ := need_some h
  obtain ⟨h2, h⟩ := need_some h
  cases h
  exact text_ok _ h1 h2
noncomputable def strings_Builder_copyCheck_2 (h0_0 : Bool) (h0_1 : (List Int)) : Option (Bool) :=
  some true
set_option maxRecDepth 100000 in
set_option maxHeartbeats 4000000 in
theorem strings_Builder_copyCheck_2_ok : ∀ (h0_0 : Bool) (h0_1 : (List Int)) (o : Bool), strings_Builder_copyCheck_2 h0_0 h0_1 = some o → CallOK Try.prog 66 [.ptr 0 0] ⟨[[.sp Try.prog 63 h0_0 0 0, .own 0 5 1 (h0_1.map (cNum .u8))]], [(h0_1.map (cNum .u8)).length]⟩ (t_strings_Builder_copyCheck_2 o) ⟨[[.sp Try.prog 63 o 0 0, .own 0 5 1 (h0_1.map (cNum .u8))]], [(h0_1.map (cNum .u8)).length]⟩ := by
  intro h0_0 h0_1 o h
  unfold strings_Builder_copyCheck_2 at h
  cases h
  exact copyCheck_ok [[.sp Try.prog 63 h0_0 0 0, .own 0 5 1 (h0_1.map (cNum .u8))]] _ 0 [.sp Try.prog 63 h0_0 0 0, .own 0 5 1 (h0_1.map (cNum .u8))] rfl rfl
noncomputable def strings_Builder_WriteString_2 (p1 : (List UInt8)) (h0_0 : Bool) (h0_1 : (List Int)) : Option (Int × Unit × Bool × (List Int)) :=
  strings_Builder_copyCheck_2 h0_0 h0_1 >>= fun x1 =>
  appL 1 h0_1 (s2b p1) >>= fun x2 =>
  some ((p1.length : Int), (), x1, x2)
set_option maxRecDepth 100000 in
set_option maxHeartbeats 4000000 in
theorem strings_Builder_WriteString_2_ok : ∀ (p1 : (List UInt8)) (h0_0 : Bool) (h0_1 : (List Int)) (o : Int × Unit × Bool × (List Int)), strings_Builder_WriteString_2 p1 h0_0 h0_1 = some o → CallOK Try.prog 54 [.ptr 0 0, .p (sV p1)] ⟨[[.sp Try.prog 63 h0_0 0 0, .own 0 5 1 (h0_1.map (cNum .u8))]], [(h0_1.map (cNum .u8)).length]⟩ (t_strings_Builder_WriteString_2 o) ⟨[[.sp Try.prog 63 o.2.2.1 0 0, .own 0 5 1 (o.2.2.2.map (cNum .u8))]], [(o.2.2.2.map (cNum .u8)).length]⟩ := by
  intro p1 h0_0 h0_1 o h
  unfold strings_Builder_WriteString_2 at h
  refine CallOK.ofB mixed tbOk strings_Builder_WriteString_2_lv Try.func54 rfl (by kernel_rfl) (Nat.le_of_ble_eq_true rfl) rfl rfl rfl ?_
  refine st_callc _ _ h (fun x1 hy => ((strings_Builder_copyCheck_2_ok h0_0 h0_1 x1 hy).fr [0] [0] rfl rfl rfl)) (fun x1 hy h => ?_)
  refine st_appso (a := h0_1) (b := p1) h rfl (fun x2 hi h => ?_)
  refine vrfl ?_
  refine Exists.intro _ (And.intro (Le.refl _ _ _) ?_)
  exact st_retc (t := t_strings_Builder_WriteString_2) (ss := fun o => ⟨[[.sp Try.prog 63 o.2.2.1 0 0, .own 0 5 1 (o.2.2.2.map (cNum .u8))]], [(o.2.2.2.map (cNum .u8)).length]⟩) h ⟨[0], rfl, .refl _, .refl _, rfl⟩
noncomputable def tree_printer_put_2_L1 (p1 : (List (List UInt8))) (v8 : Int) (h0_0_ : Bool) (h0_1_ : (List Int)) : Option ((Bool × (List Int))) :=
  if (decide (v8 < (p1.length : Int))) then
    idx p1 v8 >>= fun x2 =>
    strings_Builder_WriteString_2 x2 h0_0_ h0_1_ >>= fun x3 =>
    tree_printer_put_2_L1 p1 (wr (v8 + 1)) x3.2.2.1 x3.2.2.2
  else
    some (h0_0_, h0_1_)
  partial_fixpoint
set_option maxRecDepth 100000 in
set_option maxHeartbeats 4000000 in
theorem tree_printer_put_2_L1_grp : ∀ (p1 : (List (List UInt8))), (∀ (v8 : Int) (h0_0_ : Bool) (h0_1_ : (List Int)) (o1 : (Bool × (List Int))), tree_printer_put_2_L1 p1 v8 h0_0_ h0_1_ = some o1 → TL (1, 1) Try.prog 18 tree_printer_put_2_L1_c (JP1 (1, 1) 18 o1 (.exit 0) (tree_printer_put_2_L1_x0 p1)) (tree_printer_put_2_L1_st p1 v8 h0_0_ h0_1_)) := by
  intro p1
  refine tree_printer_put_2_L1.partial_correctness p1 _ ?_
  intro tree_printer_put_2_L1' ih_tree_printer_put_2_L1 v8 h0_0_ h0_1_ o1 h
  refine TL.round (bwp_sound mixed tbOk (lv := tree_printer_put_2_lv) _ _ _ ?_)
  refine st_test h (fun hb h => ?_) (fun hb h => ?_)
  · refine st_idx (l := p1) (c := cStr) (c' := cStr) h (fun _ => rfl) (fun _ => rfl) (by decide) (fun x2 hi h => ?_)
    refine st_callc _ _ h (fun x3 hy => ((strings_Builder_WriteString_2_ok x2 h0_0_ h0_1_ x3 hy).fr [0] [0] rfl rfl rfl)) (fun x3 hy h => ?_)
    refine TL.le (τ := tree_printer_put_2_L1_st p1 (wr (v8 + 1)) x3.2.2.1 x3.2.2.2) ?_ ((ih_tree_printer_put_2_L1 (wr (v8 + 1)) x3.2.2.1 x3.2.2.2 _ h))
    exact Le.tow 1 1 rfl (.cons rfl (.refl _) (.cons rfl (.refl _) (.cons rfl (.refl _) (.cons rfl (.refl _) (.nil))))) (.refl _) rfl
  · exact JP1.a h (Le.tow 1 1 rfl (.nil) (.refl _) rfl)
theorem tree_printer_put_2_L1_ok : ∀ (p1 : (List (List UInt8))) (v8 : Int) (h0_0_ : Bool) (h0_1_ : (List Int)) (o1 : (Bool × (List Int))), tree_printer_put_2_L1 p1 v8 h0_0_ h0_1_ = some o1 → TL (1, 1) Try.prog 18 tree_printer_put_2_L1_c (JP1 (1, 1) 18 o1 (.exit 0) (tree_printer_put_2_L1_x0 p1)) (tree_printer_put_2_L1_st p1 v8 h0_0_ h0_1_) := fun p1 v8 h0_0_ h0_1_ o1 h => (tree_printer_put_2_L1_grp p1) v8 h0_0_ h0_1_ o1 h
noncomputable def tree_printer_put_2 (p1 : (List (List UInt8))) (h0_0 : Bool) (h0_1 : (List Int)) : Option (Bool × (List Int)) :=
  (tree_printer_put_2_L1 p1 0 h0_0 h0_1) >>= fun o1 =>
  some (o1.1, o1.2)
set_option maxRecDepth 100000 in
set_option maxHeartbeats 4000000 in
theorem tree_printer_put_2_ok : ∀ (p1 : (List (List UInt8))) (h0_0 : Bool) (h0_1 : (List Int)) (o : Bool × (List Int)), tree_printer_put_2 p1 h0_0 h0_1 = some o → CallOK Try.prog 41 [.ptr 0 0, .p (.sl false (p1.map cStr))] ⟨[[.sp Try.prog 63 h0_0 0 0, .own 0 5 1 (h0_1.map (cNum .u8))]], [(h0_1.map (cNum .u8)).length]⟩ (t_tree_printer_put_2 o) ⟨[[.sp Try.prog 63 o.1 0 0, .own 0 5 1 (o.2.map (cNum .u8))]], [(o.2.map (cNum .u8)).length]⟩ := by
  intro p1 h0_0 h0_1 o h
  unfold tree_printer_put_2 at h
  refine CallOK.ofB mixed tbOk tree_printer_put_2_lv Try.func41 rfl (by kernel_rfl) (Nat.le_of_ble_eq_true rfl) rfl rfl rfl ?_
  refine view (lenMap _ _) rfl ?_
  refine st_bind h (fun o1 ho hk => ?_)
  refine Exists.intro (JP1 _ _ o1 (.exit 0) (tree_printer_put_2_L1_x0 p1)) (And.intro (T_le (τ := tree_printer_put_2_L1_st p1 0 h0_0 h0_1) ?_ (TL.loop (tree_printer_put_2_L1_ok p1 0 h0_0 h0_1 o1 ho))) (join1 ?_))
  · exact Le.tow 1 1 rfl (.cons rfl (.refl _) (.cons rfl (.refl _) (.cons rfl (.refl _) (.cons rfl (.refl _) (.nil))))) (.refl _) rfl
  have h := hk
  refine Exists.intro _ (And.intro (Le.refl _ _ _) ?_)
  exact st_retc (t := t_tree_printer_put_2) (ss := fun o => ⟨[[.sp Try.prog 63 o.1 0 0, .own 0 5 1 (o.2.map (cNum .u8))]], [(o.2.map (cNum .u8)).length]⟩) h ⟨[0], rfl, .refl _, .refl _, rfl⟩
mutual
noncomputable def tree_printer_expr_2 (p1 : api_Node) (h0_0 : Bool) (h0_1 : (List Int)) : Option (Bool × (List Int)) :=
  if (p1.Kind == 1) then
    lex_Quote p1.Text >>= fun x1 =>
    tree_printer_put_2 [x1.1] h0_0 h0_1 >>= fun x2 =>
    some (x2.1, x2.2)
  else
    if (p1.Kind == 2) then
      octet_Text p1.N >>= fun x3 =>
      tree_printer_put_2 [x3] h0_0 h0_1 >>= fun x4 =>
      some (x4.1, x4.2)
    else
      if (p1.Kind == 3) then
        if (p1.N == 1) then
          tree_printer_put_2 ([[116, 114, 117, 101]]) h0_0 h0_1 >>= fun x5 =>
          some (x5.1, x5.2)
        else
          tree_printer_put_2 ([[102, 97, 108, 115, 101]]) h0_0 h0_1 >>= fun x6 =>
          some (x6.1, x6.2)
      else
        if (p1.Kind == 4) then
          tree_printer_put_2 [p1.Name] h0_0 h0_1 >>= fun x7 =>
          some (x7.1, x7.2)
        else
          if (p1.Kind == 7) then
            tree_printer_put_2 ([[115, 101, 99, 114, 101, 116, 40, 34], p1.Name, [34, 41]]) h0_0 h0_1 >>= fun x8 =>
            some (x8.1, x8.2)
          else
            if (p1.Kind == 5) then
              idx p1.L 0 >>= fun x9 =>
              tree_printer_expr_2 x9 h0_0 h0_1 >>= fun x10 =>
              tree_printer_put_2 ([[46], p1.Name]) x10.1 x10.2 >>= fun x11 =>
              some (x11.1, x11.2)
            else
              if (p1.Kind == 6) then
                tree_printer_put_2 ([p1.Name, [40]]) h0_0 h0_1 >>= fun x12 =>
                (tree_printer_expr_2_L1 p1 0 x12.1 x12.2) >>= fun o13 =>
                tree_printer_put_2 ([[41]]) o13.1 o13.2 >>= fun x18 =>
                some (x18.1, x18.2)
              else
                some (h0_0, h0_1)
  partial_fixpoint
noncomputable def tree_printer_expr_2_L1 (p1 : api_Node) (v78 : Int) (h0_0_ : Bool) (h0_1_ : (List Int)) : Option ((Bool × (List Int))) :=
  if (decide (v78 < (p1.L.length : Int))) then
    idx p1.L v78 >>= fun x14 =>
    if (decide (v78 > 0)) then
      tree_printer_put_2 ([[44, 32]]) h0_0_ h0_1_ >>= fun x15 =>
      tree_printer_expr_2 x14 x15.1 x15.2 >>= fun x16 =>
      tree_printer_expr_2_L1 p1 (wr (v78 + 1)) x16.1 x16.2
    else
      tree_printer_expr_2 x14 h0_0_ h0_1_ >>= fun x17 =>
      tree_printer_expr_2_L1 p1 (wr (v78 + 1)) x17.1 x17.2
  else
    some (h0_0_, h0_1_)
  partial_fixpoint
end
set_option maxRecDepth 100000 in
set_option maxHeartbeats 4000000 in
theorem tree_printer_expr_2_grp : (∀ (p1 : api_Node) (h0_0 : Bool) (h0_1 : (List Int)) (o : Bool × (List Int)), tree_printer_expr_2 p1 h0_0 h0_1 = some o → CallOK Try.prog 55 [.ptr 0 0, .p (.agg [iV p1.Kind, sV p1.Name, sV p1.Text, iV p1.N, .sl false (p1.L.map c_api_Node), .sl false (p1.Then.map c_api_Node), .sl false (p1.Else.map c_api_Node)])] ⟨[[.sp Try.prog 63 h0_0 0 0, .own 0 5 1 (h0_1.map (cNum .u8))]], [(h0_1.map (cNum .u8)).length]⟩ (t_tree_printer_expr_2 o) ⟨[[.sp Try.prog 63 o.1 0 0, .own 0 5 1 (o.2.map (cNum .u8))]], [(o.2.map (cNum .u8)).length]⟩) ∧ (∀ (p1 : api_Node) (v78 : Int) (h0_0_ : Bool) (h0_1_ : (List Int)) (o13 : (Bool × (List Int))), tree_printer_expr_2_L1 p1 v78 h0_0_ h0_1_ = some o13 → TL (1, 1) Try.prog 95 tree_printer_expr_2_L1_c (JP1 (1, 1) 95 o13 (.exit 1) (tree_printer_expr_2_L1_x0 p1)) (tree_printer_expr_2_L1_st p1 v78 h0_0_ h0_1_)) := by
  refine tree_printer_expr_2.mutual_partial_correctness _ _ ?_ ?_
  · intro tree_printer_expr_2' tree_printer_expr_2_L1' ih_tree_printer_expr_2 ih_tree_printer_expr_2_L1 p1 h0_0 h0_1 o h
    refine CallOK.ofB mixed tbOk tree_printer_expr_2_lv Try.func55 rfl (by kernel_rfl) (Nat.le_of_ble_eq_true rfl) rfl rfl rfl ?_
    refine st_test h (fun hb h => ?_) (fun hb h => ?_)
    · refine st_call [sV p1.Text] t_lex_Quote h (fun x1 hy => (lex_Quote_ok p1.Text x1 hy)) (fun x1 hy h => ?_)
      refine st_callc _ _ h (fun x2 hy => ((tree_printer_put_2_ok [x1.1] h0_0 h0_1 x2 hy).fr [0] [0] rfl rfl rfl).weakC (.cons (.refl _) (.cons (.p (.not)) (.nil)))) (fun x2 hy h => ?_)
      refine Exists.intro _ (And.intro (Le.refl _ _ _) ?_)
      exact st_retc (t := t_tree_printer_expr_2) (ss := fun o => ⟨[[.sp Try.prog 63 o.1 0 0, .own 0 5 1 (o.2.map (cNum .u8))]], [(o.2.map (cNum .u8)).length]⟩) h ⟨[0], rfl, .refl _, .refl _, rfl⟩
    · refine st_test h (fun hb h => ?_) (fun hb h => ?_)
      · refine st_call [iV p1.N] t_octet_Text h (fun x3 hy => (octet_Text_ok p1.N x3 hy)) (fun x3 hy h => ?_)
        refine st_callc _ _ h (fun x4 hy => ((tree_printer_put_2_ok [x3] h0_0 h0_1 x4 hy).fr [0] [0] rfl rfl rfl).weakC (.cons (.refl _) (.cons (.p (.not)) (.nil)))) (fun x4 hy h => ?_)
        refine Exists.intro _ (And.intro (Le.refl _ _ _) ?_)
        exact st_retc (t := t_tree_printer_expr_2) (ss := fun o => ⟨[[.sp Try.prog 63 o.1 0 0, .own 0 5 1 (o.2.map (cNum .u8))]], [(o.2.map (cNum .u8)).length]⟩) h ⟨[0], rfl, .refl _, .refl _, rfl⟩
      · refine st_test h (fun hb h => ?_) (fun hb h => ?_)
        · refine st_test h (fun hb h => ?_) (fun hb h => ?_)
          · refine st_callc _ _ h (fun x5 hy => ((tree_printer_put_2_ok ([[116, 114, 117, 101]]) h0_0 h0_1 x5 hy).fr [0] [0] rfl rfl rfl).weakC (.cons (.refl _) (.cons (.p (.not)) (.nil)))) (fun x5 hy h => ?_)
            refine Exists.intro _ (And.intro (Le.refl _ _ _) ?_)
            exact st_retc (t := t_tree_printer_expr_2) (ss := fun o => ⟨[[.sp Try.prog 63 o.1 0 0, .own 0 5 1 (o.2.map (cNum .u8))]], [(o.2.map (cNum .u8)).length]⟩) h ⟨[0], rfl, .refl _, .refl _, rfl⟩
          · refine st_callc _ _ h (fun x6 hy => ((tree_printer_put_2_ok ([[102, 97, 108, 115, 101]]) h0_0 h0_1 x6 hy).fr [0] [0] rfl rfl rfl).weakC (.cons (.refl _) (.cons (.p (.not)) (.nil)))) (fun x6 hy h => ?_)
            refine Exists.intro _ (And.intro (Le.refl _ _ _) ?_)
            exact st_retc (t := t_tree_printer_expr_2) (ss := fun o => ⟨[[.sp Try.prog 63 o.1 0 0, .own 0 5 1 (o.2.map (cNum .u8))]], [(o.2.map (cNum .u8)).length]⟩) h ⟨[0], rfl, .refl _, .refl _, rfl⟩
        · refine st_test h (fun hb h => ?_) (fun hb h => ?_)
          · refine st_callc _ _ h (fun x7 hy => ((tree_printer_put_2_ok [p1.Name] h0_0 h0_1 x7 hy).fr [0] [0] rfl rfl rfl).weakC (.cons (.refl _) (.cons (.p (.not)) (.nil)))) (fun x7 hy h => ?_)
            refine Exists.intro _ (And.intro (Le.refl _ _ _) ?_)
            exact st_retc (t := t_tree_printer_expr_2) (ss := fun o => ⟨[[.sp Try.prog 63 o.1 0 0, .own 0 5 1 (o.2.map (cNum .u8))]], [(o.2.map (cNum .u8)).length]⟩) h ⟨[0], rfl, .refl _, .refl _, rfl⟩
          · refine st_test h (fun hb h => ?_) (fun hb h => ?_)
            · refine st_callc _ _ h (fun x8 hy => ((tree_printer_put_2_ok ([[115, 101, 99, 114, 101, 116, 40, 34], p1.Name, [34, 41]]) h0_0 h0_1 x8 hy).fr [0] [0] rfl rfl rfl).weakC (.cons (.refl _) (.cons (.p (.not)) (.nil)))) (fun x8 hy h => ?_)
              refine Exists.intro _ (And.intro (Le.refl _ _ _) ?_)
              exact st_retc (t := t_tree_printer_expr_2) (ss := fun o => ⟨[[.sp Try.prog 63 o.1 0 0, .own 0 5 1 (o.2.map (cNum .u8))]], [(o.2.map (cNum .u8)).length]⟩) h ⟨[0], rfl, .refl _, .refl _, rfl⟩
            · refine st_test h (fun hb h => ?_) (fun hb h => ?_)
              · refine st_idx (l := p1.L) (c := c_api_Node) (c' := l_api_Node) h c_api_Node_eq (fun _ => rfl) (by decide) (fun x9 hi h => ?_)
                refine st_callc _ _ h (fun x10 hy => ((ih_tree_printer_expr_2 x9 h0_0 h0_1 x10 hy).fr [0] [0] rfl rfl rfl)) (fun x10 hy h => ?_)
                refine st_callc _ _ h (fun x11 hy => ((tree_printer_put_2_ok ([[46], p1.Name]) x10.1 x10.2 x11 hy).fr [0] [0] rfl rfl rfl).weakC (.cons (.refl _) (.cons (.p (.not)) (.nil)))) (fun x11 hy h => ?_)
                refine Exists.intro _ (And.intro (Le.refl _ _ _) ?_)
                exact st_retc (t := t_tree_printer_expr_2) (ss := fun o => ⟨[[.sp Try.prog 63 o.1 0 0, .own 0 5 1 (o.2.map (cNum .u8))]], [(o.2.map (cNum .u8)).length]⟩) h ⟨[0], rfl, .refl _, .refl _, rfl⟩
              · refine st_test h (fun hb h => ?_) (fun hb h => ?_)
                · refine st_callc _ _ h (fun x12 hy => ((tree_printer_put_2_ok ([p1.Name, [40]]) h0_0 h0_1 x12 hy).fr [0] [0] rfl rfl rfl).weakC (.cons (.refl _) (.cons (.p (.not)) (.nil)))) (fun x12 hy h => ?_)
                  refine view (lenMap _ _) rfl ?_
                  refine st_bind h (fun o13 ho hk => ?_)
                  refine Exists.intro (JP1 _ _ o13 (.exit 1) (tree_printer_expr_2_L1_x0 p1)) (And.intro (T_le (τ := tree_printer_expr_2_L1_st p1 0 x12.1 x12.2) ?_ (TL.loop (ih_tree_printer_expr_2_L1 p1 0 x12.1 x12.2 o13 ho))) (join1 ?_))
                  · exact Le.tow 2 1 rfl (.cons rfl (.refl _) (.cons rfl (.refl _) (.cons rfl (.refl _) (.cons rfl (.refl _) (.nil))))) (.refl _) rfl
                  have h := hk
                  refine st_callc _ _ h (fun x18 hy => ((tree_printer_put_2_ok ([[41]]) o13.1 o13.2 x18 hy).fr [0] [0] rfl rfl rfl).weakC (.cons (.refl _) (.cons (.p (.not)) (.nil)))) (fun x18 hy h => ?_)
                  refine Exists.intro _ (And.intro (Le.refl _ _ _) ?_)
                  exact st_retc (t := t_tree_printer_expr_2) (ss := fun o => ⟨[[.sp Try.prog 63 o.1 0 0, .own 0 5 1 (o.2.map (cNum .u8))]], [(o.2.map (cNum .u8)).length]⟩) h ⟨[0], rfl, .refl _, .refl _, rfl⟩
                · refine Exists.intro _ (And.intro (Le.refl _ _ _) ?_)
                  exact st_retc (t := t_tree_printer_expr_2) (ss := fun o => ⟨[[.sp Try.prog 63 o.1 0 0, .own 0 5 1 (o.2.map (cNum .u8))]], [(o.2.map (cNum .u8)).length]⟩) h ⟨[0], rfl, .refl _, .refl _, rfl⟩
  · intro tree_printer_expr_2' tree_printer_expr_2_L1' ih_tree_printer_expr_2 ih_tree_printer_expr_2_L1 p1 v78 h0_0_ h0_1_ o13 h
    refine TL.round (bwp_sound mixed tbOk (lv := tree_printer_expr_2_lv) _ _ _ ?_)
    refine st_test h (fun hb h => ?_) (fun hb h => ?_)
    · refine st_idx (l := p1.L) (c := c_api_Node) (c' := l_api_Node) h c_api_Node_eq (fun _ => rfl) (by decide) (fun x14 hi h => ?_)
      refine st_test h (fun hb h => ?_) (fun hb h => ?_)
      · refine st_callc _ _ h (fun x15 hy => ((tree_printer_put_2_ok ([[44, 32]]) h0_0_ h0_1_ x15 hy).fr [0] [0] rfl rfl rfl).weakC (.cons (.refl _) (.cons (.p (.not)) (.nil)))) (fun x15 hy h => ?_)
        refine st_callc _ _ h (fun x16 hy => ((ih_tree_printer_expr_2 x14 x15.1 x15.2 x16 hy).fr [0] [0] rfl rfl rfl)) (fun x16 hy h => ?_)
        refine TL.le (τ := tree_printer_expr_2_L1_st p1 (wr (v78 + 1)) x16.1 x16.2) ?_ ((ih_tree_printer_expr_2_L1 p1 (wr (v78 + 1)) x16.1 x16.2 _ h))
        exact Le.tow 2 1 rfl (.cons rfl (.refl _) (.cons rfl (.refl _) (.cons rfl (.refl _) (.cons rfl (.refl _) (.nil))))) (.refl _) rfl
      · refine st_callc _ _ h (fun x17 hy => ((ih_tree_printer_expr_2 x14 h0_0_ h0_1_ x17 hy).fr [0] [0] rfl rfl rfl)) (fun x17 hy h => ?_)
        refine TL.le (τ := tree_printer_expr_2_L1_st p1 (wr (v78 + 1)) x17.1 x17.2) ?_ ((ih_tree_printer_expr_2_L1 p1 (wr (v78 + 1)) x17.1 x17.2 _ h))
        exact Le.tow 2 1 rfl (.cons rfl (.refl _) (.cons rfl (.refl _) (.cons rfl (.refl _) (.cons rfl (.refl _) (.nil))))) (.refl _) rfl
    · exact JP1.a h (Le.tow 2 1 rfl (.cons rfl (.refl _) (.nil)) (.refl _) rfl)
theorem tree_printer_expr_2_ok : ∀ (p1 : api_Node) (h0_0 : Bool) (h0_1 : (List Int)) (o : Bool × (List Int)), tree_printer_expr_2 p1 h0_0 h0_1 = some o → CallOK Try.prog 55 [.ptr 0 0, .p (.agg [iV p1.Kind, sV p1.Name, sV p1.Text, iV p1.N, .sl false (p1.L.map c_api_Node), .sl false (p1.Then.map c_api_Node), .sl false (p1.Else.map c_api_Node)])] ⟨[[.sp Try.prog 63 h0_0 0 0, .own 0 5 1 (h0_1.map (cNum .u8))]], [(h0_1.map (cNum .u8)).length]⟩ (t_tree_printer_expr_2 o) ⟨[[.sp Try.prog 63 o.1 0 0, .own 0 5 1 (o.2.map (cNum .u8))]], [(o.2.map (cNum .u8)).length]⟩ := fun p1 h0_0 h0_1 o h => tree_printer_expr_2_grp.1 p1 h0_0 h0_1 o h
noncomputable def tree_printer_action_2 (p1 : (List UInt8)) (p2 : api_Node) (h0_0 : Bool) (h0_1 : (List Int)) : Option (Bool × (List Int)) :=
  tree_printer_put_2 ([[123, 123, 32], p1]) h0_0 h0_1 >>= fun x1 =>
  tree_printer_expr_2 p2 x1.1 x1.2 >>= fun x2 =>
  tree_printer_put_2 ([[32, 125, 125]]) x2.1 x2.2 >>= fun x3 =>
  some (x3.1, x3.2)
set_option maxRecDepth 100000 in
set_option maxHeartbeats 4000000 in
theorem tree_printer_action_2_ok : ∀ (p1 : (List UInt8)) (p2 : api_Node) (h0_0 : Bool) (h0_1 : (List Int)) (o : Bool × (List Int)), tree_printer_action_2 p1 p2 h0_0 h0_1 = some o → CallOK Try.prog 42 [.ptr 0 0, .p (sV p1), .p (.agg [iV p2.Kind, sV p2.Name, sV p2.Text, iV p2.N, .sl false (p2.L.map c_api_Node), .sl false (p2.Then.map c_api_Node), .sl false (p2.Else.map c_api_Node)])] ⟨[[.sp Try.prog 63 h0_0 0 0, .own 0 5 1 (h0_1.map (cNum .u8))]], [(h0_1.map (cNum .u8)).length]⟩ (t_tree_printer_action_2 o) ⟨[[.sp Try.prog 63 o.1 0 0, .own 0 5 1 (o.2.map (cNum .u8))]], [(o.2.map (cNum .u8)).length]⟩ := by
  intro p1 p2 h0_0 h0_1 o h
  unfold tree_printer_action_2 at h
  refine CallOK.ofB mixed tbOk tree_printer_action_2_lv Try.func42 rfl (by kernel_rfl) (Nat.le_of_ble_eq_true rfl) rfl rfl rfl ?_
  refine st_callc _ _ h (fun x1 hy => ((tree_printer_put_2_ok ([[123, 123, 32], p1]) h0_0 h0_1 x1 hy).fr [0] [0] rfl rfl rfl).weakC (.cons (.refl _) (.cons (.p (.not)) (.nil)))) (fun x1 hy h => ?_)
  refine st_callc _ _ h (fun x2 hy => ((tree_printer_expr_2_ok p2 x1.1 x1.2 x2 hy).fr [0] [0] rfl rfl rfl)) (fun x2 hy h => ?_)
  refine st_callc _ _ h (fun x3 hy => ((tree_printer_put_2_ok ([[32, 125, 125]]) x2.1 x2.2 x3 hy).fr [0] [0] rfl rfl rfl).weakC (.cons (.refl _) (.cons (.p (.not)) (.nil)))) (fun x3 hy h => ?_)
  refine Exists.intro _ (And.intro (Le.refl _ _ _) ?_)
  exact st_retc (t := t_tree_printer_action_2) (ss := fun o => ⟨[[.sp Try.prog 63 o.1 0 0, .own 0 5 1 (o.2.map (cNum .u8))]], [(o.2.map (cNum .u8)).length]⟩) h ⟨[0], rfl, .refl _, .refl _, rfl⟩
mutual
noncomputable def tree_printer_block_2 (p1 : (List api_Node)) (h0_0 : Bool) (h0_1 : (List Int)) : Option (Bool × (List Int)) :=
  (tree_printer_block_2_L1 p1 0 h0_0 h0_1) >>= fun o1 =>
  some (o1.1, o1.2)
  partial_fixpoint
noncomputable def tree_printer_block_2_L1 (p1 : (List api_Node)) (v8 : Int) (h0_0_ : Bool) (h0_1_ : (List Int)) : Option ((Bool × (List Int))) :=
  if (decide (v8 < (p1.length : Int))) then
    idx p1 v8 >>= fun x2 =>
    ( if (x2.Kind == 8) then
        tree_printer_put_2 [x2.Text] h0_0_ h0_1_ >>= fun x6 =>
        some (.inr (x6.1, x6.2))
      else
        if (x2.Kind == 9) then
          idx x2.L 0 >>= fun x7 =>
          tree_printer_action_2 [] x7 h0_0_ h0_1_ >>= fun x8 =>
          some (.inr (x8.1, x8.2))
        else
          if (x2.Kind == 13) then
            need ([117, 115, 101, 32].length + x2.Name.length ≤ 9223372036854775807) >>= fun _ =>
            need (([117, 115, 101, 32] ++ x2.Name).length + [32].length ≤ 9223372036854775807) >>= fun _ =>
            idx x2.L 0 >>= fun x9 =>
            tree_printer_action_2 (([117, 115, 101, 32] ++ x2.Name) ++ [32]) x9 h0_0_ h0_1_ >>= fun x10 =>
            some (.inr (x10.1, x10.2))
          else
            if (x2.Kind == 10) then
              idx x2.L 0 >>= fun x11 =>
              tree_printer_action_2 [105, 102, 32] x11 h0_0_ h0_1_ >>= fun x12 =>
              some (.inl (x12.1, x12.2))
            else
              if (x2.Kind == 11) then
                need ([101, 97, 99, 104, 32].length + x2.Name.length ≤ 9223372036854775807) >>= fun _ =>
                need (([101, 97, 99, 104, 32] ++ x2.Name).length + [32, 105, 110, 32].length ≤ 9223372036854775807) >>= fun _ =>
                idx x2.L 0 >>= fun x13 =>
                tree_printer_action_2 (([101, 97, 99, 104, 32] ++ x2.Name) ++ [32, 105, 110, 32]) x13 h0_0_ h0_1_ >>= fun x14 =>
                some (.inl (x14.1, x14.2))
              else
                if (x2.Kind == 12) then
                  need ([108, 101, 116, 32].length + x2.Name.length ≤ 9223372036854775807) >>= fun _ =>
                  need (([108, 101, 116, 32] ++ x2.Name).length + [32, 61, 32].length ≤ 9223372036854775807) >>= fun _ =>
                  idx x2.L 0 >>= fun x15 =>
                  tree_printer_action_2 (([108, 101, 116, 32] ++ x2.Name) ++ [32, 61, 32]) x15 h0_0_ h0_1_ >>= fun x16 =>
                  some (.inl (x16.1, x16.2))
                else
                  some (.inl (h0_0_, h0_1_)) : Option ((Bool × (List Int)) ⊕ (Bool × (List Int)))) >>= fun o3 =>
    match o3 with
    | .inl y4 =>
      tree_printer_block_2 x2.Then y4.1 y4.2 >>= fun x17 =>
      ( if (decide ((x2.Else.length : Int) > 0)) then
          tree_printer_put_2 ([[123, 123, 32, 101, 108, 115, 101, 32, 125, 125]]) x17.1 x17.2 >>= fun x19 =>
          tree_printer_block_2 x2.Else x19.1 x19.2 >>= fun x20 =>
          some (x20.1, x20.2)
        else
          some (x17.1, x17.2) : Option ((Bool × (List Int)))) >>= fun o18 =>
      tree_printer_put_2 ([[123, 123, 32, 101, 110, 100, 32, 125, 125]]) o18.1 o18.2 >>= fun x21 =>
      tree_printer_block_2_L1 p1 (wr (v8 + 1)) x21.1 x21.2
    | .inr y5 =>
      tree_printer_block_2_L1 p1 (wr (v8 + 1)) y5.1 y5.2
  else
    some (h0_0_, h0_1_)
  partial_fixpoint
end
set_option maxRecDepth 100000 in
set_option maxHeartbeats 4000000 in
theorem tree_printer_block_2_grp : (∀ (p1 : (List api_Node)) (h0_0 : Bool) (h0_1 : (List Int)) (o : Bool × (List Int)), tree_printer_block_2 p1 h0_0 h0_1 = some o → CallOK Try.prog 20 [.ptr 0 0, .p (.sl false (p1.map c_api_Node))] ⟨[[.sp Try.prog 63 h0_0 0 0, .own 0 5 1 (h0_1.map (cNum .u8))]], [(h0_1.map (cNum .u8)).length]⟩ (t_tree_printer_block_2 o) ⟨[[.sp Try.prog 63 o.1 0 0, .own 0 5 1 (o.2.map (cNum .u8))]], [(o.2.map (cNum .u8)).length]⟩) ∧ (∀ (p1 : (List api_Node)) (v8 : Int) (h0_0_ : Bool) (h0_1_ : (List Int)) (o1 : (Bool × (List Int))), tree_printer_block_2_L1 p1 v8 h0_0_ h0_1_ = some o1 → TL (1, 1) Try.prog 92 tree_printer_block_2_L1_c (JP1 (1, 1) 92 o1 (.exit 0) (tree_printer_block_2_L1_x0 p1)) (tree_printer_block_2_L1_st p1 v8 h0_0_ h0_1_)) := by
  refine tree_printer_block_2.mutual_partial_correctness _ _ ?_ ?_
  · intro tree_printer_block_2_L1' ih_tree_printer_block_2_L1 p1 h0_0 h0_1 o h
    refine CallOK.ofB mixed tbOk tree_printer_block_2_lv Try.func20 rfl (by kernel_rfl) (Nat.le_of_ble_eq_true rfl) rfl rfl rfl ?_
    refine view (lenMap _ _) rfl ?_
    refine st_bind h (fun o1 ho hk => ?_)
    refine Exists.intro (JP1 _ _ o1 (.exit 0) (tree_printer_block_2_L1_x0 p1)) (And.intro (T_le (τ := tree_printer_block_2_L1_st p1 0 h0_0 h0_1) ?_ (TL.loop (ih_tree_printer_block_2_L1 p1 0 h0_0 h0_1 o1 ho))) (join1 ?_))
    · exact Le.tow 1 1 rfl (.cons rfl (.refl _) (.cons rfl (.refl _) (.cons rfl (.refl _) (.cons rfl (.refl _) (.nil))))) (.refl _) rfl
    have h := hk
    refine Exists.intro _ (And.intro (Le.refl _ _ _) ?_)
    exact st_retc (t := t_tree_printer_block_2) (ss := fun o => ⟨[[.sp Try.prog 63 o.1 0 0, .own 0 5 1 (o.2.map (cNum .u8))]], [(o.2.map (cNum .u8)).length]⟩) h ⟨[0], rfl, .refl _, .refl _, rfl⟩
  · intro tree_printer_block_2' tree_printer_block_2_L1' ih_tree_printer_block_2 ih_tree_printer_block_2_L1 p1 v8 h0_0_ h0_1_ o1 h
    refine TL.round (bwp_sound mixed tbOk (lv := tree_printer_block_2_lv) _ _ _ ?_)
    refine st_test h (fun hb h => ?_) (fun hb h => ?_)
    · refine st_idx (l := p1) (c := c_api_Node) (c' := l_api_Node) h c_api_Node_eq (fun _ => rfl) (by decide) (fun x2 hi h => ?_)
      refine st_bind h (fun o3 ho hk => ?_)
      refine Exists.intro (JP2 _ _ o3 .normal (tree_printer_block_2_J0_0 p1 v8 x2) (.exit 1) (tree_printer_block_2_J0_1 p1 v8 x2)) (And.intro ?_ (join2 (fun y4 hy => ?_) (fun y5 hy => ?_)))
      · have h := ho
        refine st_test h (fun hb h => ?_) (fun hb h => ?_)
        · refine st_callc _ _ h (fun x6 hy => ((tree_printer_put_2_ok [x2.Text] h0_0_ h0_1_ x6 hy).fr [0] [0] rfl rfl rfl).weakC (.cons (.refl _) (.cons (.p (.not)) (.nil)))) (fun x6 hy h => ?_)
          refine JP2.b h ?_
          exact Le.tow 2 1 rfl (.cons rfl (.refl _) (.cons rfl (.refl _) (.cons rfl (.refl _) (.cons rfl (.refl _) (.nil))))) (.refl _) rfl
        · refine st_test h (fun hb h => ?_) (fun hb h => ?_)
          · refine st_idx (l := x2.L) (c := c_api_Node) (c' := l_api_Node) h c_api_Node_eq (fun _ => rfl) (by decide) (fun x7 hi h => ?_)
            refine st_callc _ _ h (fun x8 hy => ((tree_printer_action_2_ok [] x7 h0_0_ h0_1_ x8 hy).fr [0] [0] rfl rfl rfl)) (fun x8 hy h => ?_)
            refine JP2.b h ?_
            exact Le.tow 2 1 rfl (.cons rfl (.refl _) (.cons rfl (.refl _) (.cons rfl (.refl _) (.cons rfl (.refl _) (.nil))))) (.refl _) rfl
          · refine st_test h (fun hb h => ?_) (fun hb h => ?_)
            · refine And.intro (by decide +kernel) (And.intro rfl ?_)
              refine st_need h (fun h => ?_)
              refine st_need h (fun h => ?_)
              refine st_idx (l := x2.L) (c := c_api_Node) (c' := l_api_Node) h c_api_Node_eq (fun _ => rfl) (by decide) (fun x9 hi h => ?_)
              refine st_callh _ _ h (fun x10 hy => ((tree_printer_action_2_ok (([117, 115, 101, 32] ++ x2.Name) ++ [32]) x9 h0_0_ h0_1_ x10 hy).fr [0] [0] rfl rfl rfl)) (fun x10 => Nat.le_of_ble_eq_true rfl) (fun x10 hy h => ?_)
              refine JP2.b h ?_
              exact Le.tow 2 1 rfl (.cons rfl (.refl _) (.cons rfl (.refl _) (.cons rfl (.refl _) (.cons rfl (.refl _) (.nil))))) (.refl _) rfl
            · refine st_test h (fun hb h => ?_) (fun hb h => ?_)
              · refine st_idx (l := x2.L) (c := c_api_Node) (c' := l_api_Node) h c_api_Node_eq (fun _ => rfl) (by decide) (fun x11 hi h => ?_)
                refine st_callc _ _ h (fun x12 hy => ((tree_printer_action_2_ok [105, 102, 32] x11 h0_0_ h0_1_ x12 hy).fr [0] [0] rfl rfl rfl)) (fun x12 hy h => ?_)
                refine JP2.a h ?_
                exact Le.tow 2 1 rfl (.cons rfl (.refl _) (.cons rfl (.refl _) (.cons rfl (.refl _) (.cons rfl (.refl _) (.cons rfl (.refl _) (.nil)))))) (.refl _) rfl
              · refine st_test h (fun hb h => ?_) (fun hb h => ?_)
                · refine And.intro (by decide +kernel) (And.intro rfl ?_)
                  refine st_need h (fun h => ?_)
                  refine st_need h (fun h => ?_)
                  refine st_idx (l := x2.L) (c := c_api_Node) (c' := l_api_Node) h c_api_Node_eq (fun _ => rfl) (by decide) (fun x13 hi h => ?_)
                  refine st_callh _ _ h (fun x14 hy => ((tree_printer_action_2_ok (([101, 97, 99, 104, 32] ++ x2.Name) ++ [32, 105, 110, 32]) x13 h0_0_ h0_1_ x14 hy).fr [0] [0] rfl rfl rfl)) (fun x14 => Nat.le_of_ble_eq_true rfl) (fun x14 hy h => ?_)
                  refine JP2.a h ?_
                  exact Le.tow 2 1 rfl (.cons rfl (.refl _) (.cons rfl (.refl _) (.cons rfl (.refl _) (.cons rfl (.refl _) (.cons rfl (.refl _) (.nil)))))) (.refl _) rfl
                · refine st_test h (fun hb h => ?_) (fun hb h => ?_)
                  · refine And.intro (by decide +kernel) (And.intro rfl ?_)
                    refine st_need h (fun h => ?_)
                    refine st_need h (fun h => ?_)
                    refine st_idx (l := x2.L) (c := c_api_Node) (c' := l_api_Node) h c_api_Node_eq (fun _ => rfl) (by decide) (fun x15 hi h => ?_)
                    refine st_callh _ _ h (fun x16 hy => ((tree_printer_action_2_ok (([108, 101, 116, 32] ++ x2.Name) ++ [32, 61, 32]) x15 h0_0_ h0_1_ x16 hy).fr [0] [0] rfl rfl rfl)) (fun x16 => Nat.le_of_ble_eq_true rfl) (fun x16 hy h => ?_)
                    refine JP2.a h ?_
                    exact Le.tow 2 1 rfl (.cons rfl (.refl _) (.cons rfl (.refl _) (.cons rfl (.refl _) (.cons rfl (.refl _) (.cons rfl (.refl _) (.nil)))))) (.refl _) rfl
                  · refine JP2.a h ?_
                    exact Le.tow 2 1 rfl (.cons rfl (.refl _) (.cons rfl (.refl _) (.cons rfl (.refl _) (.cons rfl (.refl _) (.cons rfl (.refl _) (.nil)))))) (.refl _) rfl
      · have h := (by rw [hy] at hk; exact hk)
        refine st_callc _ _ h (fun x17 hy => ((ih_tree_printer_block_2 x2.Then y4.1 y4.2 x17 hy).fr [0] [0] rfl rfl rfl)) (fun x17 hy h => ?_)
        refine st_bind h (fun o18 ho hk => ?_)
        refine Exists.intro (JP1 _ _ o18 .normal (tree_printer_block_2_J1_0 p1 v8 x2)) (And.intro ?_ (join1 ?_))
        · have h := ho
          refine view (lenMap _ _) rfl ?_
          refine st_test h (fun hb h => ?_) (fun hb h => ?_)
          · refine st_callc _ _ h (fun x19 hy => ((tree_printer_put_2_ok ([[123, 123, 32, 101, 108, 115, 101, 32, 125, 125]]) x17.1 x17.2 x19 hy).fr [0] [0] rfl rfl rfl).weakC (.cons (.refl _) (.cons (.p (.not)) (.nil)))) (fun x19 hy h => ?_)
            refine st_callc _ _ h (fun x20 hy => ((ih_tree_printer_block_2 x2.Else x19.1 x19.2 x20 hy).fr [0] [0] rfl rfl rfl)) (fun x20 hy h => ?_)
            refine JP1.a h ?_
            exact Le.tow 2 1 rfl (.cons rfl (.refl _) (.cons rfl (.refl _) (.cons rfl (.refl _) (.cons rfl (.refl _) (.nil))))) (.refl _) rfl
          · refine JP1.a h ?_
            exact Le.tow 2 1 rfl (.cons rfl (.refl _) (.cons rfl (.refl _) (.cons rfl (.refl _) (.cons rfl (.refl _) (.nil))))) (.refl _) rfl
        · have h := hk
          refine st_callc _ _ h (fun x21 hy => ((tree_printer_put_2_ok ([[123, 123, 32, 101, 110, 100, 32, 125, 125]]) o18.1 o18.2 x21 hy).fr [0] [0] rfl rfl rfl).weakC (.cons (.refl _) (.cons (.p (.not)) (.nil)))) (fun x21 hy h => ?_)
          refine TL.le (τ := tree_printer_block_2_L1_st p1 (wr (v8 + 1)) x21.1 x21.2) ?_ ((ih_tree_printer_block_2_L1 p1 (wr (v8 + 1)) x21.1 x21.2 _ h))
          exact Le.tow 1 1 rfl (.cons rfl (.refl _) (.cons rfl (.refl _) (.cons rfl (.refl _) (.cons rfl (.refl _) (.nil))))) (.refl _) rfl
      · have h := (by rw [hy] at hk; exact hk)
        refine TL.le (τ := tree_printer_block_2_L1_st p1 (wr (v8 + 1)) y5.1 y5.2) ?_ ((ih_tree_printer_block_2_L1 p1 (wr (v8 + 1)) y5.1 y5.2 _ h))
        exact Le.tow 1 1 rfl (.cons rfl (.refl _) (.cons rfl (.refl _) (.cons rfl (.refl _) (.cons rfl (.refl _) (.nil))))) (.refl _) rfl
    · exact JP1.a h (Le.tow 1 1 rfl (.nil) (.refl _) rfl)
theorem tree_printer_block_2_ok : ∀ (p1 : (List api_Node)) (h0_0 : Bool) (h0_1 : (List Int)) (o : Bool × (List Int)), tree_printer_block_2 p1 h0_0 h0_1 = some o → CallOK Try.prog 20 [.ptr 0 0, .p (.sl false (p1.map c_api_Node))] ⟨[[.sp Try.prog 63 h0_0 0 0, .own 0 5 1 (h0_1.map (cNum .u8))]], [(h0_1.map (cNum .u8)).length]⟩ (t_tree_printer_block_2 o) ⟨[[.sp Try.prog 63 o.1 0 0, .own 0 5 1 (o.2.map (cNum .u8))]], [(o.2.map (cNum .u8)).length]⟩ := fun p1 h0_0 h0_1 o h => tree_printer_block_2_grp.1 p1 h0_0 h0_1 o h
noncomputable def tree_printer_block_L1 (p1 : (List api_Node)) (v8 : Int) (h0_0_ : Bool) (h0_1 : (List Int)) : Option ((Bool × (List Int))) :=
  if (decide (v8 < (p1.length : Int))) then
    idx p1 v8 >>= fun x2 =>
    ( if (x2.Kind == 8) then
        tree_printer_put_2 [x2.Text] h0_0_ h0_1 >>= fun x6 =>
        some (.inr (x6.1, x6.2))
      else
        if (x2.Kind == 9) then
          idx x2.L 0 >>= fun x7 =>
          tree_printer_action_2 [] x7 h0_0_ h0_1 >>= fun x8 =>
          some (.inr (x8.1, x8.2))
        else
          if (x2.Kind == 13) then
            need ([117, 115, 101, 32].length + x2.Name.length ≤ 9223372036854775807) >>= fun _ =>
            need (([117, 115, 101, 32] ++ x2.Name).length + [32].length ≤ 9223372036854775807) >>= fun _ =>
            idx x2.L 0 >>= fun x9 =>
            tree_printer_action_2 (([117, 115, 101, 32] ++ x2.Name) ++ [32]) x9 h0_0_ h0_1 >>= fun x10 =>
            some (.inr (x10.1, x10.2))
          else
            if (x2.Kind == 10) then
              idx x2.L 0 >>= fun x11 =>
              tree_printer_action_2 [105, 102, 32] x11 h0_0_ h0_1 >>= fun x12 =>
              some (.inl (x12.1, x12.2))
            else
              if (x2.Kind == 11) then
                need ([101, 97, 99, 104, 32].length + x2.Name.length ≤ 9223372036854775807) >>= fun _ =>
                need (([101, 97, 99, 104, 32] ++ x2.Name).length + [32, 105, 110, 32].length ≤ 9223372036854775807) >>= fun _ =>
                idx x2.L 0 >>= fun x13 =>
                tree_printer_action_2 (([101, 97, 99, 104, 32] ++ x2.Name) ++ [32, 105, 110, 32]) x13 h0_0_ h0_1 >>= fun x14 =>
                some (.inl (x14.1, x14.2))
              else
                if (x2.Kind == 12) then
                  need ([108, 101, 116, 32].length + x2.Name.length ≤ 9223372036854775807) >>= fun _ =>
                  need (([108, 101, 116, 32] ++ x2.Name).length + [32, 61, 32].length ≤ 9223372036854775807) >>= fun _ =>
                  idx x2.L 0 >>= fun x15 =>
                  tree_printer_action_2 (([108, 101, 116, 32] ++ x2.Name) ++ [32, 61, 32]) x15 h0_0_ h0_1 >>= fun x16 =>
                  some (.inl (x16.1, x16.2))
                else
                  some (.inl (h0_0_, h0_1)) : Option ((Bool × (List Int)) ⊕ (Bool × (List Int)))) >>= fun o3 =>
    match o3 with
    | .inl y4 =>
      tree_printer_block_2 x2.Then y4.1 y4.2 >>= fun x17 =>
      ( if (decide ((x2.Else.length : Int) > 0)) then
          tree_printer_put_2 ([[123, 123, 32, 101, 108, 115, 101, 32, 125, 125]]) x17.1 x17.2 >>= fun x19 =>
          tree_printer_block_2 x2.Else x19.1 x19.2 >>= fun x20 =>
          some (x20.1, x20.2)
        else
          some (x17.1, x17.2) : Option ((Bool × (List Int)))) >>= fun o18 =>
      tree_printer_put_2 ([[123, 123, 32, 101, 110, 100, 32, 125, 125]]) o18.1 o18.2 >>= fun x21 =>
      tree_printer_block_L1 p1 (wr (v8 + 1)) x21.1 x21.2
    | .inr y5 =>
      tree_printer_block_L1 p1 (wr (v8 + 1)) y5.1 y5.2
  else
    some (h0_0_, h0_1)
  partial_fixpoint
set_option maxRecDepth 100000 in
set_option maxHeartbeats 4000000 in
theorem tree_printer_block_L1_grp : ∀ (p1 : (List api_Node)), (∀ (v8 : Int) (h0_0_ : Bool) (h0_1 : (List Int)) (o1 : (Bool × (List Int))), tree_printer_block_L1 p1 v8 h0_0_ h0_1 = some o1 → TL (1, 0) Try.prog 92 tree_printer_block_L1_c (JP1 (1, 0) 92 o1 (.exit 0) (tree_printer_block_L1_x0 p1)) (tree_printer_block_L1_st p1 v8 h0_0_ h0_1)) := by
  intro p1
  refine tree_printer_block_L1.partial_correctness p1 _ ?_
  intro tree_printer_block_L1' ih_tree_printer_block_L1 v8 h0_0_ h0_1 o1 h
  refine TL.round (bwp_sound mixed tbOk (lv := tree_printer_block_lv) _ _ _ ?_)
  refine st_test h (fun hb h => ?_) (fun hb h => ?_)
  · refine st_idx (l := p1) (c := c_api_Node) (c' := l_api_Node) h c_api_Node_eq (fun _ => rfl) (by decide) (fun x2 hi h => ?_)
    refine st_bind h (fun o3 ho hk => ?_)
    refine Exists.intro (JP2 _ _ o3 .normal (tree_printer_block_J0_0 p1 v8 x2) (.exit 1) (tree_printer_block_J0_1 p1 v8 x2)) (And.intro ?_ (join2 (fun y4 hy => ?_) (fun y5 hy => ?_)))
    · have h := ho
      refine st_test h (fun hb h => ?_) (fun hb h => ?_)
      · refine st_callc _ _ h (fun x6 hy => ((tree_printer_put_2_ok [x2.Text] h0_0_ h0_1 x6 hy).fr [0] [0] rfl rfl rfl).weakC (.cons (.refl _) (.cons (.p (.not)) (.nil)))) (fun x6 hy h => ?_)
        refine JP2.b h ?_
        exact Le.tow 2 1 rfl (.cons rfl (.refl _) (.cons rfl (.refl _) (.cons rfl (.refl _) (.cons rfl (.refl _) (.nil))))) (.refl _) rfl
      · refine st_test h (fun hb h => ?_) (fun hb h => ?_)
        · refine st_idx (l := x2.L) (c := c_api_Node) (c' := l_api_Node) h c_api_Node_eq (fun _ => rfl) (by decide) (fun x7 hi h => ?_)
          refine st_callc _ _ h (fun x8 hy => ((tree_printer_action_2_ok [] x7 h0_0_ h0_1 x8 hy).fr [0] [0] rfl rfl rfl)) (fun x8 hy h => ?_)
          refine JP2.b h ?_
          exact Le.tow 2 1 rfl (.cons rfl (.refl _) (.cons rfl (.refl _) (.cons rfl (.refl _) (.cons rfl (.refl _) (.nil))))) (.refl _) rfl
        · refine st_test h (fun hb h => ?_) (fun hb h => ?_)
          · refine And.intro (by decide +kernel) (And.intro rfl ?_)
            refine st_need h (fun h => ?_)
            refine st_need h (fun h => ?_)
            refine st_idx (l := x2.L) (c := c_api_Node) (c' := l_api_Node) h c_api_Node_eq (fun _ => rfl) (by decide) (fun x9 hi h => ?_)
            refine st_callh _ _ h (fun x10 hy => ((tree_printer_action_2_ok (([117, 115, 101, 32] ++ x2.Name) ++ [32]) x9 h0_0_ h0_1 x10 hy).fr [0] [0] rfl rfl rfl)) (fun x10 => Nat.le_of_ble_eq_true rfl) (fun x10 hy h => ?_)
            refine JP2.b h ?_
            exact Le.tow 2 1 rfl (.cons rfl (.refl _) (.cons rfl (.refl _) (.cons rfl (.refl _) (.cons rfl (.refl _) (.nil))))) (.refl _) rfl
          · refine st_test h (fun hb h => ?_) (fun hb h => ?_)
            · refine st_idx (l := x2.L) (c := c_api_Node) (c' := l_api_Node) h c_api_Node_eq (fun _ => rfl) (by decide) (fun x11 hi h => ?_)
              refine st_callc _ _ h (fun x12 hy => ((tree_printer_action_2_ok [105, 102, 32] x11 h0_0_ h0_1 x12 hy).fr [0] [0] rfl rfl rfl)) (fun x12 hy h => ?_)
              refine JP2.a h ?_
              exact Le.tow 2 1 rfl (.cons rfl (.refl _) (.cons rfl (.refl _) (.cons rfl (.refl _) (.cons rfl (.refl _) (.cons rfl (.refl _) (.nil)))))) (.refl _) rfl
            · refine st_test h (fun hb h => ?_) (fun hb h => ?_)
              · refine And.intro (by decide +kernel) (And.intro rfl ?_)
                refine st_need h (fun h => ?_)
                refine st_need h (fun h => ?_)
                refine st_idx (l := x2.L) (c := c_api_Node) (c' := l_api_Node) h c_api_Node_eq (fun _ => rfl) (by decide) (fun x13 hi h => ?_)
                refine st_callh _ _ h (fun x14 hy => ((tree_printer_action_2_ok (([101, 97, 99, 104, 32] ++ x2.Name) ++ [32, 105, 110, 32]) x13 h0_0_ h0_1 x14 hy).fr [0] [0] rfl rfl rfl)) (fun x14 => Nat.le_of_ble_eq_true rfl) (fun x14 hy h => ?_)
                refine JP2.a h ?_
                exact Le.tow 2 1 rfl (.cons rfl (.refl _) (.cons rfl (.refl _) (.cons rfl (.refl _) (.cons rfl (.refl _) (.cons rfl (.refl _) (.nil)))))) (.refl _) rfl
              · refine st_test h (fun hb h => ?_) (fun hb h => ?_)
                · refine And.intro (by decide +kernel) (And.intro rfl ?_)
                  refine st_need h (fun h => ?_)
                  refine st_need h (fun h => ?_)
                  refine st_idx (l := x2.L) (c := c_api_Node) (c' := l_api_Node) h c_api_Node_eq (fun _ => rfl) (by decide) (fun x15 hi h => ?_)
                  refine st_callh _ _ h (fun x16 hy => ((tree_printer_action_2_ok (([108, 101, 116, 32] ++ x2.Name) ++ [32, 61, 32]) x15 h0_0_ h0_1 x16 hy).fr [0] [0] rfl rfl rfl)) (fun x16 => Nat.le_of_ble_eq_true rfl) (fun x16 hy h => ?_)
                  refine JP2.a h ?_
                  exact Le.tow 2 1 rfl (.cons rfl (.refl _) (.cons rfl (.refl _) (.cons rfl (.refl _) (.cons rfl (.refl _) (.cons rfl (.refl _) (.nil)))))) (.refl _) rfl
                · refine JP2.a h ?_
                  exact Le.tow 2 1 rfl (.cons rfl (.refl _) (.cons rfl (.refl _) (.cons rfl (.refl _) (.cons rfl (.refl _) (.cons rfl (.refl _) (.nil)))))) (.refl _) rfl
    · have h := (by rw [hy] at hk; exact hk)
      refine st_callc _ _ h (fun x17 hy => ((tree_printer_block_2_ok x2.Then y4.1 y4.2 x17 hy).fr [0] [0] rfl rfl rfl)) (fun x17 hy h => ?_)
      refine st_bind h (fun o18 ho hk => ?_)
      refine Exists.intro (JP1 _ _ o18 .normal (tree_printer_block_J1_0 p1 v8 x2)) (And.intro ?_ (join1 ?_))
      · have h := ho
        refine view (lenMap _ _) rfl ?_
        refine st_test h (fun hb h => ?_) (fun hb h => ?_)
        · refine st_callc _ _ h (fun x19 hy => ((tree_printer_put_2_ok ([[123, 123, 32, 101, 108, 115, 101, 32, 125, 125]]) x17.1 x17.2 x19 hy).fr [0] [0] rfl rfl rfl).weakC (.cons (.refl _) (.cons (.p (.not)) (.nil)))) (fun x19 hy h => ?_)
          refine st_callc _ _ h (fun x20 hy => ((tree_printer_block_2_ok x2.Else x19.1 x19.2 x20 hy).fr [0] [0] rfl rfl rfl)) (fun x20 hy h => ?_)
          refine JP1.a h ?_
          exact Le.tow 2 1 rfl (.cons rfl (.refl _) (.cons rfl (.refl _) (.cons rfl (.refl _) (.cons rfl (.refl _) (.nil))))) (.refl _) rfl
        · refine JP1.a h ?_
          exact Le.tow 2 1 rfl (.cons rfl (.refl _) (.cons rfl (.refl _) (.cons rfl (.refl _) (.cons rfl (.refl _) (.nil))))) (.refl _) rfl
      · have h := hk
        refine st_callc _ _ h (fun x21 hy => ((tree_printer_put_2_ok ([[123, 123, 32, 101, 110, 100, 32, 125, 125]]) o18.1 o18.2 x21 hy).fr [0] [0] rfl rfl rfl).weakC (.cons (.refl _) (.cons (.p (.not)) (.nil)))) (fun x21 hy h => ?_)
        refine TL.le (τ := tree_printer_block_L1_st p1 (wr (v8 + 1)) x21.1 x21.2) ?_ ((ih_tree_printer_block_L1 (wr (v8 + 1)) x21.1 x21.2 _ h))
        exact Le.tow 1 1 rfl (.cons rfl (.refl _) (.cons rfl (.refl _) (.cons rfl (.refl _) (.cons rfl (.refl _) (.nil))))) (.refl _) rfl
    · have h := (by rw [hy] at hk; exact hk)
      refine TL.le (τ := tree_printer_block_L1_st p1 (wr (v8 + 1)) y5.1 y5.2) ?_ ((ih_tree_printer_block_L1 (wr (v8 + 1)) y5.1 y5.2 _ h))
      exact Le.tow 1 1 rfl (.cons rfl (.refl _) (.cons rfl (.refl _) (.cons rfl (.refl _) (.cons rfl (.refl _) (.nil))))) (.refl _) rfl
  · exact JP1.a h (Le.tow 1 1 rfl (.nil) (.refl _) rfl)
theorem tree_printer_block_L1_ok : ∀ (p1 : (List api_Node)) (v8 : Int) (h0_0_ : Bool) (h0_1 : (List Int)) (o1 : (Bool × (List Int))), tree_printer_block_L1 p1 v8 h0_0_ h0_1 = some o1 → TL (1, 0) Try.prog 92 tree_printer_block_L1_c (JP1 (1, 0) 92 o1 (.exit 0) (tree_printer_block_L1_x0 p1)) (tree_printer_block_L1_st p1 v8 h0_0_ h0_1) := fun p1 v8 h0_0_ h0_1 o1 h => (tree_printer_block_L1_grp p1) v8 h0_0_ h0_1 o1 h
noncomputable def tree_printer_block (p1 : (List api_Node)) (h0_0 : Bool) : Option (Bool × (List Int)) :=
  (tree_printer_block_L1 p1 0 h0_0 []) >>= fun o1 =>
  some (o1.1, o1.2)
set_option maxRecDepth 100000 in
set_option maxHeartbeats 4000000 in
theorem tree_printer_block_ok : ∀ (p1 : (List api_Node)) (h0_0 : Bool) (o : Bool × (List Int)), tree_printer_block p1 h0_0 = some o → CallOK Try.prog 20 [.ptr 0 0, .p (.sl false (p1.map c_api_Node))] ⟨[[.sp Try.prog 63 h0_0 0 0, .p (.sl true [])]], []⟩ (t_tree_printer_block o) ⟨[[.sp Try.prog 63 o.1 0 0, .own 0 5 1 (o.2.map (cNum .u8))]], [(o.2.map (cNum .u8)).length]⟩ := by
  intro p1 h0_0 o h
  unfold tree_printer_block at h
  refine CallOK.ofB mixed tbOk tree_printer_block_lv Try.func20 rfl (by kernel_rfl) (Nat.le_of_ble_eq_true rfl) rfl rfl rfl ?_
  refine view (lenMap _ _) rfl ?_
  refine st_bind h (fun o1 ho hk => ?_)
  refine Exists.intro (JP1 _ _ o1 (.exit 0) (tree_printer_block_L1_x0 p1)) (And.intro (T_le (τ := tree_printer_block_L1_st p1 0 h0_0 []) ?_ (TL.loop (tree_printer_block_L1_ok p1 0 h0_0 [] o1 ho))) (join1 ?_))
  · exact (Le.ownH 0 1 5 1 rfl rfl sizeNil).trans (Le.tow 1 1 rfl (.cons rfl (.refl _) (.cons rfl (.refl _) (.cons rfl (.refl _) (.cons rfl (.refl _) (.nil))))) (.refl _) rfl)
  have h := hk
  refine Exists.intro _ (And.intro (Le.refl _ _ _) ?_)
  exact st_retc (t := t_tree_printer_block) (ss := fun o => ⟨[[.sp Try.prog 63 o.1 0 0, .own 0 5 1 (o.2.map (cNum .u8))]], [(o.2.map (cNum .u8)).length]⟩) h ⟨[0], rfl, .refl _, .refl _, rfl⟩
noncomputable def tree_Print (p0 : (List api_Node)) : Option ((List UInt8) × Bool) :=
  tree_Is p0 >>= fun x1 =>
  if (!x1) then
    some ([], false)
  else
    tree_printer_block p0 false >>= fun x2 =>
    strings_Builder_Len_2 x2.1 x2.2 >>= fun x3 =>
    if (decide (x3 > 65536)) then
      some ([], false)
    else
      strings_Builder_String_2 x2.1 x2.2 >>= fun x4 =>
      some (x4, true)
set_option maxRecDepth 100000 in
set_option maxHeartbeats 4000000 in
theorem tree_Print_ok : ∀ (p0 : (List api_Node)) (o : (List UInt8) × Bool), tree_Print p0 = some o → PCall Try.prog 8 [.sl false (p0.map c_api_Node)] (t_tree_Print o) := by
  intro p0 o h
  unfold tree_Print at h
  refine PCall.ofB mixed tbOk tree_Print_lv Try.func8 rfl (by kernel_rfl) (Nat.le_of_ble_eq_true rfl) ?_
  refine st_call [.sl false (p0.map c_api_Node)] t_tree_Is h (fun x1 hy => (tree_Is_ok p0 x1 hy)) (fun x1 hy h => ?_)
  refine st_test h (fun hb h => ?_) (fun hb h => ?_)
  · refine st_ret (t := t_tree_Print) h ?_
    exact .refl _
  · refine st_callc _ _ h (fun x2 hy => ((tree_printer_block_ok p0 false x2 hy).fr [0] [] rfl rfl rfl)) (fun x2 hy h => ?_)
    refine st_callc _ _ h (fun x3 hy => ((strings_Builder_Len_2_ok x2.1 x2.2 x3 hy).fr [0] [0] rfl rfl rfl)) (fun x3 hy h => ?_)
    refine st_test h (fun hb h => ?_) (fun hb h => ?_)
    · refine st_ret (t := t_tree_Print) h ?_
      exact .refl _
    · refine st_callc _ _ h (fun x4 hy => ((strings_Builder_String_2_ok x2.1 x2.2 x4 hy).fr [0] [0] rfl rfl rfl)) (fun x4 hy h => ?_)
      refine st_ret (t := t_tree_Print) h ?_
      exact .refl _
noncomputable def nunciolaw19_awake : Option (Bool) :=
  tree_Print ([(api_Node.mk 9 [] [] 0 ([(api_Node.mk 5 [108, 97, 98, 101, 108, 115] [] 0 ([(api_Node.mk 4 [97] [] 0 [] [] [])]) [] [])]) [] [])]) >>= fun x1 =>
  tree_Print ([(api_Node.mk 10 [] [] 0 ([(api_Node.mk 3 [] [] 1 [] [] [])]) ([(api_Node.mk 8 [] [120] 0 [] [] [])]) [])]) >>= fun x2 =>
  ( if (x1.1 == [123, 123, 32, 97, 46, 108, 97, 98, 101, 108, 115, 32, 125, 125]) then
      if x1.2 then
        if (x2.1 == [123, 123, 32, 105, 102, 32, 116, 114, 117, 101, 32, 125, 125, 120, 123, 123, 32, 101, 110, 100, 32, 125, 125]) then
          some x2.2
        else
          some false
      else
        some false
    else
      some false : Option (Bool)) >>= fun o3 =>
  some o3
set_option maxRecDepth 100000 in
set_option maxHeartbeats 4000000 in
theorem nunciolaw19_awake_ok : ∀ (o : Bool), nunciolaw19_awake  = some o → PCall Try.prog 10 [] (t_nunciolaw19_awake o) := by
  intro o h
  unfold nunciolaw19_awake at h
  refine PCall.ofB mixed tbOk nunciolaw19_awake_lv Try.func10 rfl (by kernel_rfl) (Nat.le_of_ble_eq_true rfl) ?_
  refine st_call [.sl true [[iV 9, sV [], sV [], iV 0, .sl true [[iV 5, sV [108, 97, 98, 101, 108, 115], sV [], iV 0, .sl true [[iV 4, sV [97], sV [], iV 0, .sl true [], .sl true [], .sl true []]], .sl true [], .sl true []]], .sl true [], .sl true []]]] t_tree_Print h (fun x1 hy => (tree_Print_ok ([(api_Node.mk 9 [] [] 0 ([(api_Node.mk 5 [108, 97, 98, 101, 108, 115] [] 0 ([(api_Node.mk 4 [97] [] 0 [] [] [])]) [] [])]) [] [])]) x1 hy).weak (.cons (.no (.cons (.ceq (c_api_Node_eq _) (.cons (.refl _) (.cons (.refl _) (.cons (.refl _) (.cons (.refl _) (.cons (.no (.cons (.ceq (c_api_Node_eq _) (.cons (.refl _) (.cons (.refl _) (.cons (.refl _) (.cons (.refl _) (.cons (.no (.cons (.ceq (c_api_Node_eq _) (.cons (.refl _) (.cons (.refl _) (.cons (.refl _) (.cons (.refl _) (.cons (.not) (.cons (.not) (.cons (.not) (.nil))))))))) (.nil))) (.cons (.not) (.cons (.not) (.nil))))))))) (.nil))) (.cons (.not) (.cons (.not) (.nil))))))))) (.nil))) (.nil))) (fun x1 hy h => ?_)
  refine st_call [.sl true [[iV 10, sV [], sV [], iV 0, .sl true [[iV 3, sV [], sV [], iV 1, .sl true [], .sl true [], .sl true []]], .sl true [[iV 8, sV [], sV [120], iV 0, .sl true [], .sl true [], .sl true []]], .sl true []]]] t_tree_Print h (fun x2 hy => (tree_Print_ok ([(api_Node.mk 10 [] [] 0 ([(api_Node.mk 3 [] [] 1 [] [] [])]) ([(api_Node.mk 8 [] [120] 0 [] [] [])]) [])]) x2 hy).weak (.cons (.no (.cons (.ceq (c_api_Node_eq _) (.cons (.refl _) (.cons (.refl _) (.cons (.refl _) (.cons (.refl _) (.cons (.no (.cons (.ceq (c_api_Node_eq _) (.cons (.refl _) (.cons (.refl _) (.cons (.refl _) (.cons (.refl _) (.cons (.not) (.cons (.not) (.cons (.not) (.nil))))))))) (.nil))) (.cons (.no (.cons (.ceq (c_api_Node_eq _) (.cons (.refl _) (.cons (.refl _) (.cons (.refl _) (.cons (.refl _) (.cons (.not) (.cons (.not) (.cons (.not) (.nil))))))))) (.nil))) (.cons (.not) (.nil))))))))) (.nil))) (.nil))) (fun x2 hy h => ?_)
  refine st_bind h (fun o3 ho hk => ?_)
  refine Exists.intro (JP1 _ _ o3 .normal (nunciolaw19_awake_J0_0 )) (And.intro ?_ (join1 ?_))
  · have h := ho
    refine st_test h (fun hb h => ?_) (fun hb h => ?_)
    · refine st_test h (fun hb h => ?_) (fun hb h => ?_)
      · refine st_test h (fun hb h => ?_) (fun hb h => ?_)
        · refine JP1.a h ?_
          exact Le.tow 0 0 rfl (.cons rfl (.refl _) (.nil)) (.refl _) rfl
        · refine JP1.a h ?_
          exact Le.tow 0 0 rfl (.cons rfl (.refl _) (.nil)) (.refl _) rfl
      · refine bF ?_
        refine JP1.a h ?_
        exact Le.tow 0 0 rfl (.cons rfl (.refl _) (.nil)) (.refl _) rfl
    · refine bF ?_
      refine bF ?_
      refine JP1.a h ?_
      exact Le.tow 0 0 rfl (.cons rfl (.refl _) (.nil)) (.refl _) rfl
  · have h := hk
    refine st_ret (t := t_nunciolaw19_awake) h ?_
    exact .refl _
noncomputable def nunciolaw19_TreeLong (p0 : Int) (p1 : Int) (p2 : Bool) : Option (Bool) :=
  mkL 1 (wr ((wr p0) + (wr p1))) 0 >>= fun x1 =>
  (nunciolaw19_TreeLong_L1 p2 x1 0) >>= fun o2 =>
  ( if (decide ((o2.length : Int) > 0)) then
      b2s o2 >>= fun x5 =>
      appL 120 [] ([(api_Node.mk 8 [] x5 0 [] [] [])]) >>= fun x6 =>
      some x6
    else
      some [] : Option ((List api_Node))) >>= fun o4 =>
  ( if p2 then
      appL 120 o4 ([(api_Node.mk 9 [] [] 0 ([(api_Node.mk 3 [] [] 1 [] [] [])]) [] [])]) >>= fun x8 =>
      some x8
    else
      some o4 : Option ((List api_Node))) >>= fun o7 =>
  tree_Print o7 >>= fun x9 =>
  R19_Print o7 >>= fun x10 =>
  ( if (x9.1 == x10.1) then
      if (x9.2 == x10.2) then
        nunciolaw19_awake >>= fun x12 =>
        some x12
      else
        some false
    else
      some false : Option (Bool)) >>= fun o11 =>
  some o11
set_option maxRecDepth 100000 in
set_option maxHeartbeats 4000000 in
theorem nunciolaw19_TreeLong_ok : ∀ (p0 : Int) (p1 : Int) (p2 : Bool) (o : Bool), nunciolaw19_TreeLong p0 p1 p2 = some o → PCall Try.prog 4 [nV .u16 p0, nV .u8 p1, bV p2] (t_nunciolaw19_TreeLong o) := by
  intro p0 p1 p2 o h
  unfold nunciolaw19_TreeLong at h
  refine PCall.ofB mixed tbOk nunciolaw19_TreeLong_lv Try.func4 rfl (by kernel_rfl) (Nat.le_of_ble_eq_true rfl) ?_
  refine vrfl ?_
  refine vrfl ?_
  refine st_xmk (c := (cNum .u8)) h rfl ⟨rfl, by decide⟩ (fun x1 hi h => ?_)
  refine st_bind h (fun o2 ho hk => ?_)
  refine Exists.intro (JP1 _ _ o2 (.exit 0) (nunciolaw19_TreeLong_L1_x0 p2)) (And.intro (T_le (τ := nunciolaw19_TreeLong_L1_st p2 x1 0) ?_ (TL.loop (nunciolaw19_TreeLong_L1_ok p2 x1 0 o2 ho))) (join1 ?_))
  · exact Le.tow 0 1 rfl (.cons rfl (.refl _) (.cons rfl (.refl _) (.cons rfl (.refl _) (.nil)))) (.refl _) rfl
  have h := hk
  refine st_bind h (fun o4 ho hk => ?_)
  refine Exists.intro (JP1 _ _ o4 .normal (nunciolaw19_TreeLong_J0_0 p2)) (And.intro ?_ (join1 ?_))
  · have h := ho
    refine And.intro rfl (Exists.intro _ (And.intro (List.length_map _) ?_))
    refine st_test h (fun hb h => ?_) (fun hb h => ?_)
    · refine Exists.intro _ (And.intro (Le.frzv (.s 7) 0 1 rfl rfl rfl rfl) ?_)
      refine st_b2s (l := o2) h (fun x5 hi h => ?_)
      refine st_appf (a := ([] : List api_Node)) (b := [(api_Node.mk 8 [] x5 0 [] [] [])]) (c := c_api_Node) h (.refl _) (.cons (.ceq (c_api_Node_eq _) (.cons (.refl _) (.cons (.refl _) (.cons (.refl _) (.cons (.refl _) (.cons (.not) (.cons (.not) (.cons (.not) (.nil))))))))) (.nil)) (fun x => by rw [c_api_Node_eq]; rfl) (.inl rfl) (fun x6 hi h => ?_)
      refine JP1.a h ?_
      exact Le.tow 0 2 rfl (.cons rfl (.refl _) (.cons rfl (.refl _) (.nil))) (.refl _) rfl
    · refine JP1.a h ?_
      exact Le.trans (τ := ⟨[(2, .p (bV p2)), (7, .x 0 1 (.sl 5 1 (o2.map (cNum .u8)))), (9, .p (.sl true [])), (32, .p (bV (decide ((o2.length : Int) > 0))))], ⟨[], [1]⟩⟩) (Le.tow 0 1 rfl (.cons rfl (.refl _) (.cons rfl (.refl _) (.cons rfl (.refl _) (.cons rfl (.refl _) (.nil))))) (.refl _) rfl) ((Le.own 9 39 7 rfl sizeNil).trans (Le.tow 0 2 rfl (.cons rfl (.refl _) (.cons rfl (.refl _) (.nil))) (.refl _) rfl))
  · have h := hk
    refine st_bind h (fun o7 ho hk => ?_)
    refine Exists.intro (JP1 _ _ o7 .normal (nunciolaw19_TreeLong_J1_0 )) (And.intro ?_ (join1 ?_))
    · have h := ho
      refine st_test h (fun hb h => ?_) (fun hb h => ?_)
      · refine st_appo (a := o4) (b := [(api_Node.mk 9 [] [] 0 ([(api_Node.mk 3 [] [] 1 [] [] [])]) [] [])]) (c := c_api_Node) h (.cons (.ceq (c_api_Node_eq _) (.cons (.refl _) (.cons (.refl _) (.cons (.refl _) (.cons (.refl _) (.cons (.no (.cons (.ceq (c_api_Node_eq _) (.cons (.refl _) (.cons (.refl _) (.cons (.refl _) (.cons (.refl _) (.cons (.not) (.cons (.not) (.cons (.not) (.nil))))))))) (.nil))) (.cons (.not) (.cons (.not) (.nil))))))))) (.nil)) (fun x => by rw [c_api_Node_eq]; rfl) rfl (fun x8 hi h => ?_)
        refine JP1.a h ?_
        exact Le.tow 0 2 rfl (.cons rfl (.refl _) (.nil)) (.refl _) rfl
      · refine JP1.a h ?_
        exact Le.tow 0 2 rfl (.cons rfl (.refl _) (.nil)) (.refl _) rfl
    · have h := hk
      refine st_call [.sl false (o7.map c_api_Node)] t_tree_Print h (fun x9 hy => (tree_Print_ok o7 x9 hy)) (fun x9 hy h => ?_)
      refine st_call [.sl false (o7.map c_api_Node)] t_R19_Print h (fun x10 hy => (R19_Print_ok o7 x10 hy)) (fun x10 hy h => ?_)
      refine st_bind h (fun o11 ho hk => ?_)
      refine Exists.intro (JP1 _ _ o11 .normal (nunciolaw19_TreeLong_J2_0 o7)) (And.intro ?_ (join1 ?_))
      · have h := ho
        refine st_test h (fun hb h => ?_) (fun hb h => ?_)
        · refine st_test h (fun hb h => ?_) (fun hb h => ?_)
          · refine st_call [] t_nunciolaw19_awake h (fun x12 hy => (nunciolaw19_awake_ok x12 hy)) (fun x12 hy h => ?_)
            refine JP1.a h ?_
            exact Le.tow 0 2 rfl (.cons rfl (.refl _) (.nil)) (.refl _) rfl
          · refine JP1.a h ?_
            exact Le.tow 0 2 rfl (.cons rfl (.refl _) (.nil)) (.refl _) rfl
        · refine bF ?_
          refine JP1.a h ?_
          exact Le.tow 0 2 rfl (.cons rfl (.refl _) (.nil)) (.refl _) rfl
      · have h := hk
        refine st_ret (t := t_nunciolaw19_TreeLong) h ?_
        exact .refl _
end Go.Proofs.Ytebkhehjfkmdiaa
end

section
namespace Go.Proofs.Ytebkhehjfkmdiaa
open Go.RowKit

mutual
/-- How many nodes. -/
def nn : api_Node → Nat
  | ⟨_, _, _, _, a, b, c⟩ => 1 + nns a + nns b + nns c
def nns : List api_Node → Nat
  | [] => 0
  | x :: r => nn x + nns r
end
mutual
/-- How deep. -/
def dp : api_Node → Nat
  | ⟨_, _, _, _, a, b, c⟩ => 1 + max (dps a) (max (dps b) (dps c))
def dps : List api_Node → Nat
  | [] => 0
  | x :: r => max (dp x) (dps r)
end
theorem nn_eq (x : api_Node) : nn x = 1 + nns x.L + nns x.Then + nns x.Else := by cases x; rw [nn]
theorem dp_eq (x : api_Node) : dp x = 1 + max (dps x.L) (max (dps x.Then) (dps x.Else)) := by cases x; rw [dp]
theorem nn_pos (x : api_Node) : 1 ≤ nn x := by rw [nn_eq]; omega
theorem nns_len : ∀ l : List api_Node, l.length ≤ nns l
  | [] => by simp [nns]
  | x :: r => by have := nns_len r; have := nn_pos x; simp [nns]; omega
theorem nns_mem : ∀ {l : List api_Node} {x : api_Node}, x ∈ l → nn x ≤ nns l
  | y :: r, x, h => by
    rcases List.mem_cons.1 h with rfl | h
    · simp [nns]
    · have := nns_mem h; simp [nns]; omega
section
end
section
end
end Go.Proofs.Ytebkhehjfkmdiaa
end

section
namespace Go.Proofs.Ytebkhehjfkmdiaa
open Go.RowKit

def smallB (c : UInt8) : Bool := decide (97 ≤ c.toNat) && decide (c.toNat ≤ 122)
def digB (c : UInt8) : Bool := decide (48 ≤ c.toNat) && decide (c.toNat ≤ 57)
def letB (c : UInt8) : Bool := smallB c || (digB c || c.toNat == 95)
def headB : List UInt8 → Bool
  | [] => false
  | c :: _ => decide (97 ≤ c.toNat)
theorem headB_cons (c : UInt8) (r : List UInt8) : headB (c :: r) = decide (97 ≤ c.toNat) := rfl
def wordP (s : List UInt8) : Bool := !(s == []) && (decide (s.length ≤ 32) && (headB s && s.all letB))
theorem geN (n k : Nat) : decide ((n : Int) ≥ (k : Int)) = decide (k ≤ n) := by
  by_cases h : k ≤ n
  · rw [decide_eq_true h, decide_eq_true (by omega : (n : Int) ≥ k)]
  · rw [decide_eq_false h, decide_eq_false (by omega)]
theorem leN (n k : Nat) : decide ((n : Int) ≤ (k : Int)) = decide (n ≤ k) := by
  by_cases h : n ≤ k
  · rw [decide_eq_true h, decide_eq_true (by omega : (n : Int) ≤ k)]
  · rw [decide_eq_false h, decide_eq_false (by omega)]
theorem eqN (n k : Nat) : ((n : Int) == (k : Int)) = (n == k) := by
  by_cases h : n = k
  · subst h; simp
  · rw [beq_eq_false_iff_ne.2 h, beq_eq_false_iff_ne.2 (by omega)]
theorem lDigit (c : UInt8) : lex_digit (c.toNat : Int) = some (digB c) := by
  have a := geN c.toNat 48
  have b := leN c.toNat 57
  rw [lex_digit]
  rw [show (48 : Int) = ((48 : Nat) : Int) from rfl, show (57 : Int) = ((57 : Nat) : Int) from rfl, a, b, digB]
  cases decide (48 ≤ c.toNat) <;> rfl
theorem rDigit (c : UInt8) : R18_digit (c.toNat : Int) = some (digB c) := by
  have a := geN c.toNat 48
  have b := leN c.toNat 57
  rw [R18_digit]
  rw [show (48 : Int) = ((48 : Nat) : Int) from rfl, show (57 : Int) = ((57 : Nat) : Int) from rfl, a, b, digB]
  cases decide (48 ≤ c.toNat) <;> rfl
theorem rSmall (c : UInt8) : R18_small (c.toNat : Int) = some (smallB c) := by
  have a := geN c.toNat 97
  have b := leN c.toNat 122
  rw [R18_small]
  rw [show (97 : Int) = ((97 : Nat) : Int) from rfl, show (122 : Int) = ((122 : Nat) : Int) from rfl, a, b, smallB]
  cases decide (97 ≤ c.toNat) <;> rfl
theorem lLetter (c : UInt8) : lex_letter (c.toNat : Int) = some (letB c) := by
  have a := geN c.toNat 97
  have b := leN c.toNat 122
  have d := eqN c.toNat 95
  rw [lex_letter, lDigit]
  rw [show (97 : Int) = ((97 : Nat) : Int) from rfl, show (122 : Int) = ((122 : Nat) : Int) from rfl, show (95 : Int) = ((95 : Nat) : Int) from rfl, a, b, d, letB, smallB]
  simp only [bind_some']
  cases decide (97 ≤ c.toNat) <;> cases decide (c.toNat ≤ 122) <;> cases digB c <;> cases (c.toNat == 95) <;> rfl
theorem lWordL (s : List UInt8) (hs : s.length < 9223372036854775807) : ∀ k, k ≤ s.length → lex_Word_L1 s k = some (if (s.drop k).all letB then .inl () else .inr ()) := by
  refine upto ?_ fun k hk ih => ?_
  · rw [lex_Word_L1]; simp
  · rw [lex_Word_L1, wr_succ (by omega), ih]
    simp only [ltI, hk, decide_true, if_true, idx_nat, getE hk, bind_some', lLetter]
    rw [dropE hk, List.all_cons]
    cases letB s[k] <;> rfl
theorem lWord (s : List UInt8) (hs : s.length < 9223372036854775807) : lex_Word s = some (wordP s) := by
  have h := lWordL s hs 0 (by omega)
  rw [lex_Word, show (0 : Int) = ((0 : Nat) : Int) from rfl, h, List.drop_zero, wordP]
  have e := leN s.length 32
  rw [show (32 : Int) = ((32 : Nat) : Int) from rfl, e]
  cases ha : s.all letB with
  | false => cases (s == []) <;> cases decide (s.length ≤ 32) <;> cases headB s <;> rfl
  | true =>
    cases s with
    | nil => rfl
    | cons c r =>
      have g := geN c.toNat 97
      rw [show (97 : Int) = ((97 : Nat) : Int) from rfl]
      simp only [if_true, bind_some', idx_nat, List.getElem?_cons_zero, g, headB_cons]
      have e0 : ((c :: r) == ([] : List UInt8)) = false := rfl
      rw [e0]
      cases decide ((c :: r).length ≤ 32) <;> simp
theorem letSmall {c : UInt8} (h : letB c = true) : smallB c = decide (97 ≤ c.toNat) := by
  unfold letB smallB digB at *
  by_cases h1 : 97 ≤ c.toNat
  · rw [decide_eq_true h1] at h ⊢
    simp at h ⊢
    omega
  · rw [decide_eq_false h1]; rfl
theorem rWordL (s : List UInt8) (hs : s.length < 9223372036854775807) : ∀ k, k ≤ s.length → R18_Word_L1 s k = some (if (s.drop k).all letB then .inl () else .inr ()) := by
  refine upto ?_ fun k hk ih => ?_
  · rw [R18_Word_L1]; simp
  · have d := eqN s[k].toNat 95
    rw [R18_Word_L1, wr_succ (by omega), ih]
    simp only [ltI, hk, decide_true, if_true, idx_nat, getE hk, bind_some', rSmall, rDigit]
    rw [dropE hk, List.all_cons, letB]
    have e : (((s[k].toNat : Nat) : Int) != 95) = !(s[k].toNat == 95) := by rw [← d]; rfl
    rw [e]
    cases smallB s[k] <;> cases digB s[k] <;> cases (s[k].toNat == 95) <;> rfl
theorem rWord (s : List UInt8) (hs : s.length < 9223372036854775807) : R18_Word s = some (wordP s) := by
  have h := rWordL s hs 0 (by omega)
  rw [R18_Word, show (0 : Int) = ((0 : Nat) : Int) from rfl, h, List.drop_zero, wordP]
  cases s with
  | nil => rfl
  | cons c r =>
    have e1 : decide ((((c :: r).length : Nat) : Int) < 1) = false := decide_eq_false (by simp; omega)
    have e2 : decide ((((c :: r).length : Nat) : Int) > 32) = !(decide ((c :: r).length ≤ 32)) := by
      by_cases h : (c :: r).length ≤ 32
      · rw [decide_eq_true h, decide_eq_false (by omega)]; rfl
      · rw [decide_eq_false h, decide_eq_true (by omega)]; rfl
    simp only [e1, e2, Bool.false_eq_true, if_false, idx_nat, List.getElem?_cons_zero, bind_some', rSmall, headB_cons]
    have e0 : ((c :: r) == ([] : List UInt8)) = false := rfl
    rw [e0]
    cases ha : (c :: r).all letB with
    | true =>
      have hl : letB c = true := by rw [List.all_cons, Bool.and_eq_true] at ha; exact ha.1
      rw [letSmall hl]
      cases decide ((c :: r).length ≤ 32) <;> cases decide (97 ≤ c.toNat) <;> rfl
    | false => cases decide ((c :: r).length ≤ 32) <;> cases decide (97 ≤ c.toNat) <;> cases smallB c <;> rfl
def kws : List (List UInt8) := [[105, 102], [101, 108, 115, 101], [101, 110, 100], [101, 97, 99, 104], [105, 110], [108, 101, 116], [117, 115, 101], [116, 114, 117, 101], [102, 97, 108, 115, 101], [115, 101, 99, 114, 101, 116]]
def nameP (s : List UInt8) : Bool := !(kws.any (· == s)) && wordP s
theorem tName (s : List UInt8) (hs : s.length < 9223372036854775807) : tree_Name s = some (nameP s) := by
  have c : ∀ a : List UInt8, (a == s) = (s == a) := fun a => by rw [Bool.beq_comm]
  rw [tree_Name, lWord s hs, nameP]
  simp only [kws, List.any_cons, List.any_nil, c]
  generalize (s == [105, 102]) = a1
  generalize (s == [101, 108, 115, 101]) = a2
  generalize (s == [101, 110, 100]) = a3
  generalize (s == [101, 97, 99, 104]) = a4
  generalize (s == [105, 110]) = a5
  generalize (s == [108, 101, 116]) = a6
  generalize (s == [117, 115, 101]) = a7
  generalize (s == [116, 114, 117, 101]) = a8
  generalize (s == [102, 97, 108, 115, 101]) = a9
  generalize (s == [115, 101, 99, 114, 101, 116]) = a10
  generalize wordP s = b
  cases a1
  · cases a2
    · cases a3
      · cases a4
        · cases a5
          · cases a6
            · cases a7
              · cases a8
                · cases a9
                  · cases a10 <;> cases b <;> rfl
                  · rfl
                · rfl
              · rfl
            · rfl
          · rfl
        · rfl
      · rfl
    · rfl
  · rfl
theorem rNameL (s : List UInt8) (l : List (List UInt8)) (hl : l.length < 9223372036854775807) : ∀ k, k ≤ l.length → R19_Name_L1 s l k = some (if (l.drop k).any (· == s) then .inr () else .inl ()) := by
  refine upto ?_ fun k hk ih => ?_
  · rw [R19_Name_L1]; simp
  · rw [R19_Name_L1, wr_succ (by omega), ih]
    simp only [ltI, hk, decide_true, if_true, idx_nat, getE hk, bind_some']
    rw [dropE hk, List.any_cons]
    cases (l[k] == s) <;> rfl
theorem rName (s : List UInt8) (hs : s.length < 9223372036854775807) : R19_Name s = some (nameP s) := by
  have h := rNameL s kws (by decide) 0 (by omega)
  rw [R19_Name, R19_Words]
  simp only [bind_some', rWord s hs]
  rw [show (0 : Int) = ((0 : Nat) : Int) from rfl]
  show (R19_Name_L1 s kws _ >>= _) = _
  rw [h, List.drop_zero, nameP]
  cases kws.any (· == s) <;> rfl
theorem word_ne {s : List UInt8} (h : wordP s = true) : (s == []) = false := by
  unfold wordP at h
  cases hs : (s == []) with
  | false => rfl
  | true => rw [hs] at h; cases h
theorem name_word {s : List UInt8} (h : nameP s = true) : wordP s = true := by
  unfold nameP at h
  cases hw : wordP s with
  | true => rfl
  | false => rw [hw] at h; simp at h

def hasB : List UInt8 → Bool
  | [] => false
  | c :: r => (c == 123 && r.head? == some 123) || hasB r
theorem pre2 (l : List UInt8) : ([123, 123] : List UInt8).isPrefixOf l = (match l with | [] => false | c :: r => c == 123 && r.head? == some 123) := by
  match l with
  | [] => rfl
  | [c] => simp [List.isPrefixOf]
  | c :: d :: r =>
    simp only [List.isPrefixOf, List.head?_cons]
    have e1 : (123 == c) = (c == 123) := Bool.beq_comm
    have e2 : (123 == d) = (d == 123) := Bool.beq_comm
    rw [e1, e2]
    cases (c == 123) <;> cases hd : (d == 123) <;> simp_all
theorem has_index : ∀ l : List UInt8, decide (Lib.index l [123, 123] ≥ 0) = hasB l
  | [] => rfl
  | c :: r => by
    have ih := has_index r
    have hg := Lib.index_ge r [123, 123]
    have hp2 : ([123, 123] : List UInt8).isPrefixOf (c :: r) = (c == 123 && r.head? == some 123) := pre2 (c :: r)
    unfold Lib.index
    rw [hp2, hasB]
    generalize (c == 123 && r.head? == some 123) = b
    cases b with
    | true => rfl
    | false =>
      simp only [Bool.false_or]
      by_cases h1 : Lib.index r [123, 123] = -1
      · rw [h1] at ih ⊢
        rw [← ih]; rfl
      · rw [if_neg (by decide), if_neg (by simpa using h1), ← ih, decide_eq_true (by omega), decide_eq_true (by omega)]
theorem tHas (s : List UInt8) (hs : s.length < 4294967281) : strings_Contains s [123, 123] = some (hasB s) := by
  rw [strings_Contains, strings_Index, internal_stringslite_Index, need_ok hs]
  simp only [bind_some', has_index]
theorem rBegins (s : List UInt8) (k : Nat) (hk : k < s.length) (hs : s.length < 4294967281) : R01_Begins s [123, 123] k = some (match s.drop k with | [] => false | c :: r => c == 123 && r.head? == some 123) := by
  have e1 : decide ((k : Int) ≥ 0) = true := decide_eq_true (by omega)
  have e2 : decide ((k : Int) ≤ (s.length : Int)) = true := decide_eq_true (by omega)
  have e3 : wr ((s.length : Int) - k) = ((s.length - k : Nat) : Int) := by rw [wr_in (by omega) (by omega)]; omega
  have e4 : wr ((k : Int) + (([123, 123] : List UInt8).length : Int)) = ((k + 2 : Nat) : Int) := by rw [wr_in (by simp; omega) (by simp; omega)]; simp
  rw [R01_Begins, e1, e2, e3, e4]
  simp only [if_true]
  by_cases h2 : 2 ≤ s.length - k
  · have e5 : decide (((([123, 123] : List UInt8).length : Nat) : Int) ≤ ((s.length - k : Nat) : Int)) = true := decide_eq_true (by simp; omega)
    rw [e5, cutL_ok (by omega) (by omega) (by omega)]
    simp only [if_true, bind_some']
    have hk1 : k + 1 < s.length := by omega
    have e6 : (s.take (k + 2)).drop k = [s[k], s[k + 1]] := by
      apply List.ext_getElem
      · simp; omega
      · intro i h1 h2
        simp at h1 h2
        match i, h2 with
        | 0, _ => simp
        | 1, _ => simp
    rw [Int.toNat_natCast, Int.toNat_natCast, e6, dropE hk, dropE hk1]
    simp only [List.head?_cons]
    have : (([s[k], s[k + 1]] : List UInt8) == [123, 123]) = (s[k] == 123 && (some s[k + 1] == some 123)) := by
      have e : (some s[k + 1] == some (123 : UInt8)) = (s[k + 1] == 123) := rfl
      rw [e, List.cons_beq_cons, List.cons_beq_cons]
      show (s[k] == 123 && (s[k + 1] == 123 && true)) = _
      rw [Bool.and_true]
    rw [this]
  · have e5 : decide (((([123, 123] : List UInt8).length : Nat) : Int) ≤ ((s.length - k : Nat) : Int)) = false := decide_eq_false (by simp; omega)
    rw [e5, dropE hk]
    have : s.drop (k + 1) = [] := List.drop_eq_nil_of_le (by omega)
    rw [this]
    simp
theorem rStandsL (s : List UInt8) (hs : s.length < 4294967281) : ∀ k, k ≤ s.length → R19_stands_L1 s [123, 123] k = some (if hasB (s.drop k) then .inr () else .inl ()) := by
  refine upto ?_ fun k hk ih => ?_
  · rw [R19_stands_L1]; simp [hasB]
  · rw [R19_stands_L1, wr_succ (by omega), ih, rBegins s k hk hs]
    simp only [ltI, hk, decide_true, if_true, bind_some']
    rw [dropE hk, hasB]
    show (if (s[k] == 123 && (s.drop (k + 1)).head? == some 123) = true then _ else _) = _
    generalize (s[k] == 123 && (s.drop (k + 1)).head? == some 123) = b
    cases b <;> rfl
theorem rStands (s : List UInt8) (hs : s.length < 4294967281) : R19_stands s [123, 123] = some (hasB s) := by
  have h := rStandsL s hs 0 (by omega)
  rw [R19_stands, show (0 : Int) = ((0 : Nat) : Int) from rfl, h, List.drop_zero]
  cases hasB s <;> rfl
def endB (s : List UInt8) : Bool := s.getLast? == some 123
theorem tEnd (s : List UInt8) (hs : s.length < 4294967281) : strings_HasSuffix s [123] = some (endB s) := by
  rw [strings_HasSuffix, internal_stringslite_HasSuffix, endB]
  cases hl : s.getLast? with
  | none =>
    have : s = [] := List.getLast?_eq_none_iff.1 hl
    subst this
    rfl
  | some c =>
    have hne : s ≠ [] := fun h => by subst h; cases hl
    have hpos : 0 < s.length := List.length_pos_iff.2 hne
    have e1 : decide ((s.length : Int) ≥ ((([123] : List UInt8).length : Nat) : Int)) = true := decide_eq_true (by simp; omega)
    have e2 : wr ((s.length : Int) - ((([123] : List UInt8).length : Nat) : Int)) = ((s.length - 1 : Nat) : Int) := by rw [wr_in (by simp; omega) (by simp; omega)]; simp; omega
    rw [e1, e2, cutL_ok (by omega) (by omega) (by omega)]
    simp only [if_true, bind_some', Int.toNat_natCast, List.take_length]
    have e3 : s.drop (s.length - 1) = [c] := by
      have h1 : s.length - 1 < s.length := by omega
      rw [dropE h1, List.drop_eq_nil_of_le (by omega)]
      rw [List.getLast?_eq_getElem?, getE h1] at hl
      cases hl; rfl
    rw [e3]
    simp
theorem rEnd (s : List UInt8) (hs : s.length < 4294967281) (hne : (s == []) = false) : (idx s (wr ((s.length : Int) - 1)) >>= fun x => some ((x.toNat : Int) == 123)) = some (endB s) := by
  have hne : s ≠ [] := fun h => by subst h; cases hne
  have hpos : 0 < s.length := List.length_pos_iff.2 hne
  have e2 : wr ((s.length : Int) - 1) = ((s.length - 1 : Nat) : Int) := by rw [wr_in (by omega) (by omega)]; omega
  have h1 : s.length - 1 < s.length := by omega
  rw [e2, idx_nat, getE h1, bind_some', endB, List.getLast?_eq_getElem?, getE h1]
  have d := eqN s[s.length - 1].toNat 123
  rw [show (123 : Int) = ((123 : Nat) : Int) from rfl, d]
  congr 1
  by_cases h : s[s.length - 1] = 123
  · rw [h]; rfl
  · have : s[s.length - 1].toNat ≠ 123 := fun e => h (UInt8.toNat_inj.1 (by rw [e]; rfl))
    rw [beq_eq_false_iff_ne.2 this]
    symm
    rw [beq_eq_false_iff_ne]
    intro e; exact h (Option.some.inj e)
end Go.Proofs.Ytebkhehjfkmdiaa
end

section
namespace Go.Proofs.Ytebkhehjfkmdiaa
open Go.RowKit

mutual
def allN (Q : api_Node → Prop) : api_Node → Prop
  | ⟨k, s, t, n, a, b, c⟩ => Q ⟨k, s, t, n, a, b, c⟩ ∧ allL Q a ∧ allL Q b ∧ allL Q c
def allL (Q : api_Node → Prop) : List api_Node → Prop
  | [] => True
  | x :: r => allN Q x ∧ allL Q r
end
theorem allN_eq (Q : api_Node → Prop) (x : api_Node) : allN Q x ↔ (Q x ∧ allL Q x.L ∧ allL Q x.Then ∧ allL Q x.Else) := by cases x; rw [allN]
theorem allL_mem {Q : api_Node → Prop} : ∀ {l : List api_Node} {x : api_Node}, x ∈ l → allL Q l → allN Q x
  | y :: r, x, h, hs => by
    rw [allL] at hs
    rcases List.mem_cons.1 h with rfl | h
    · exact hs.1
    · exact allL_mem h hs.2
/-- A node that can be reckoned with. -/
structure okNd (x : api_Node) : Prop where
  nm : x.Name.length ≤ 1000000
  tx : x.Text.length ≤ 1000000
  rg : -9223372036854775808 ≤ x.N ∧ x.N ≤ 9223372036854775807
  qt : x.Kind = 1 → ∃ q, lex_Quote x.Text = some q ∧ R18_Quote x.Text = some q
noncomputable def quoteP (s : List UInt8) : List UInt8 × Bool := (lex_Quote s).getD ([], false)

def zl (l : List api_Node) : Bool := l.length == 0
mutual
noncomputable def exprP : api_Node → Bool
  | ⟨k, s, t, n, a, b, c⟩ =>
    if k == 1 then (quoteP t).2 && (s == [] && (n == 0 && (zl a && (zl b && zl c)))) else
    if k == 2 then s == [] && (t == [] && (zl a && (zl b && zl c))) else
    if k == 3 then (n == 0 || n == 1) && (s == [] && (t == [] && (zl a && (zl b && zl c)))) else
    if k == 4 then nameP s && (t == [] && (n == 0 && (zl a && (zl b && zl c)))) else
    if k == 5 then wordP s && (a.length == 1 && (exprsP a && (t == [] && (n == 0 && (zl b && zl c))))) else
    if k == 6 then nameP s && (decide (a.length ≤ 3) && (exprsP a && (t == [] && (n == 0 && (zl b && zl c))))) else
    if k == 7 then wordP s && (t == [] && (n == 0 && (zl a && (zl b && zl c)))) else false
noncomputable def exprsP : List api_Node → Bool
  | [] => true
  | x :: r => exprP x && exprsP r
end
theorem exprP_eq (x : api_Node) : exprP x =
    if x.Kind == 1 then (quoteP x.Text).2 && (x.Name == [] && (x.N == 0 && (zl x.L && (zl x.Then && zl x.Else)))) else
    if x.Kind == 2 then x.Name == [] && (x.Text == [] && (zl x.L && (zl x.Then && zl x.Else))) else
    if x.Kind == 3 then (x.N == 0 || x.N == 1) && (x.Name == [] && (x.Text == [] && (zl x.L && (zl x.Then && zl x.Else)))) else
    if x.Kind == 4 then nameP x.Name && (x.Text == [] && (x.N == 0 && (zl x.L && (zl x.Then && zl x.Else)))) else
    if x.Kind == 5 then wordP x.Name && (x.L.length == 1 && (exprsP x.L && (x.Text == [] && (x.N == 0 && (zl x.Then && zl x.Else))))) else
    if x.Kind == 6 then nameP x.Name && (decide (x.L.length ≤ 3) && (exprsP x.L && (x.Text == [] && (x.N == 0 && (zl x.Then && zl x.Else))))) else
    if x.Kind == 7 then wordP x.Name && (x.Text == [] && (x.N == 0 && (zl x.L && (zl x.Then && zl x.Else)))) else false := by cases x; rw [exprP]
theorem zI (l : List api_Node) : ((l.length : Int) == 0) = zl l := eqN l.length 0
theorem gI (l : List api_Node) : decide ((l.length : Int) > 0) = !zl l := by
  unfold zl
  by_cases h : l.length = 0
  · rw [h]; rfl
  · rw [beq_eq_false_iff_ne.2 h, decide_eq_true (by omega)]; rfl
theorem oneI (l : List api_Node) : ((l.length : Int) == 1) = (l.length == 1) := eqN l.length 1
theorem low1 (a : BitVec 64) : a &&& ~~~1#64 = 0#64 ↔ (a = 0#64 ∨ a = 1#64) := by
  constructor
  · intro h
    have hb : ∀ i, 0 < i → a.getLsbD i = false := fun i hi => by
      have := congrArg (fun x : BitVec 64 => x.getLsbD i) h
      simp only [BitVec.getLsbD_and, BitVec.getLsbD_not, BitVec.getLsbD_zero] at this
      by_cases h64 : i < 64
      · have h1 : (1#64).getLsbD i = false := by simp [BitVec.getLsbD_one]; omega
        rw [h1] at this
        simpa [h64] using this
      · exact BitVec.getLsbD_of_ge a i (by omega)
    cases h0 : a.getLsbD 0 with
    | false =>
      left
      apply BitVec.eq_of_getLsbD_eq
      intro i _
      by_cases hi : i = 0
      · subst hi; rw [h0]; simp
      · rw [hb i (by omega)]; simp
    | true =>
      right
      apply BitVec.eq_of_getLsbD_eq
      intro i _
      by_cases hi : i = 0
      · subst hi; rw [h0]; simp
      · rw [hb i (by omega)]; simp [BitVec.getLsbD_one]; omega
  · rintro (h | h) <;> subst h <;> decide
theorem ofI {n : Int} (h1 : -9223372036854775808 ≤ n) (h2 : n ≤ 9223372036854775807) (m : Int) (h3 : 0 ≤ m) (h4 : m ≤ 1) : BitVec.ofInt 64 n = BitVec.ofInt 64 m ↔ n = m := by
  constructor
  · intro h
    have := congrArg BitVec.toInt h
    rw [BitVec.toInt_ofInt, BitVec.toInt_ofInt, Int.bmod_def, Int.bmod_def] at this
    simp only [show (((2 : Nat) ^ 64 : Nat) : Int) = 18446744073709551616 from rfl] at this
    split at this <;> split at this <;> omega
  · intro h; rw [h]
theorem wrap0 (m : Nat) (h : m < 18446744073709551616) : (IntKind.i64.wrap (m : Int) = 0) ↔ m = 0 := by
  rw [IntKind.wrap_i64]
  omega
theorem truthI (n : Int) (h1 : -9223372036854775808 ≤ n) (h2 : n ≤ 9223372036854775807) : ((bits .andNot .i64 n 1) == 0) = (n == 0 || n == 1) := by
  have hw := wrap0 (BitVec.ofInt 64 n &&& ~~~(BitVec.ofInt 64 1)).toNat (BitVec.isLt _)
  have e : bits .andNot .i64 n 1 = IntKind.i64.wrap ((BitVec.ofInt 64 n &&& ~~~(BitVec.ofInt 64 1)).toNat : Int) := rfl
  have e2 : (BitVec.ofInt 64 n &&& ~~~(BitVec.ofInt 64 1)).toNat = 0 ↔ (n = 0 ∨ n = 1) := by
    have z : (BitVec.ofInt 64 n &&& ~~~(BitVec.ofInt 64 1)).toNat = 0 ↔ BitVec.ofInt 64 n &&& ~~~1#64 = 0#64 := by
      constructor
      · intro h; exact BitVec.eq_of_toNat_eq h
      · intro h; exact congrArg BitVec.toNat h
    rw [z, low1]
    have a0 := ofI h1 h2 0 (by omega) (by omega)
    have a1 := ofI h1 h2 1 (by omega) (by omega)
    rw [← a0, ← a1]
    exact Iff.rfl
  rw [e2] at hw
  rw [e]
  by_cases h : n = 0 ∨ n = 1
  · rw [hw.2 h]
    rcases h with h | h <;> subst h <;> rfl
  · have : ¬ IntKind.i64.wrap ((BitVec.ofInt 64 n &&& ~~~(BitVec.ofInt 64 1)).toNat : Int) = 0 := fun k => h (hw.1 k)
    rw [beq_eq_false_iff_ne.2 this]
    simp only [not_or] at h
    rw [beq_eq_false_iff_ne.2 h.1, beq_eq_false_iff_ne.2 h.2]
    rfl
section
variable (n : Nat) (ih : ∀ x : api_Node, nn x ≤ n → allN okNd x → tree_expr x = some (exprP x))
include ih
theorem tExprL (l : List api_Node) (h : nns l ≤ n) (ho : allL okNd l) (hl : l.length < 9223372036854775807) : ∀ k, k ≤ l.length → ∃ r, slices_IndexFunc_api_Node_api_Node_tree_expr_1_L1 l k = some r ∧
    (match r with | .inl _ => exprsP (l.drop k) = true | .inr v => 0 ≤ v ∧ exprsP (l.drop k) = false) := by
  refine upto ?_ fun k hk ihk => ?_
  · rw [slices_IndexFunc_api_Node_api_Node_tree_expr_1_L1]
    refine ⟨.inl (), by simp, ?_⟩
    simp [exprsP]
  · have hx := nns_mem (List.getElem_mem hk)
    rw [slices_IndexFunc_api_Node_api_Node_tree_expr_1_L1, wr_succ (by omega)]
    simp only [ltI, hk, decide_true, if_true, idx_nat, getE hk, bind_some', tree_expr_1, ih l[k] (by omega) (allL_mem (List.getElem_mem hk) ho)]
    rw [dropE hk]
    simp only [exprsP]
    cases he : exprP l[k] with
    | true =>
      obtain ⟨r, h1, h2⟩ := ihk
      refine ⟨r, by simpa using h1, ?_⟩
      simpa using h2
    | false => exact ⟨.inr k, by simp, by omega, rfl⟩
end
theorem tExpr : ∀ n (x : api_Node), n < 1000000000 → nn x ≤ n → allN okNd x → tree_expr x = some (exprP x) := by
  intro n
  induction n with
  | zero => intro x _ h; have := nn_pos x; omega
  | succ n ih =>
    intro x hb h ho
    rw [nn_eq] at h
    obtain ⟨hq, ho1, -, -⟩ := (allN_eq okNd x).1 ho
    have hnm := hq.nm
    rw [tree_expr, tree_planned, exprP_eq, tName x.Name (by omega), lWord x.Name (by omega)]
    simp only [bind_some', gI, truthI _ hq.rg.1 hq.rg.2]
    have e2 : (x.N != 0) = !(x.N == 0) := rfl
    have e3 : ((x.L.length : Int) == 0) = zl x.L := zI x.L
    have e4 : ((x.L.length : Int) == 1) = (x.L.length == 1) := oneI x.L
    simp only [e2, e3, e4]
    by_cases k1 : x.Kind = 1
    · obtain ⟨q, q1, q2⟩ := hq.qt k1
      simp only [k1, beq_self_eq_true, if_true, q1, bind_some', quoteP, Option.getD_some]
      generalize (x.Name == []) = a1
      generalize (x.Text == []) = a2
      generalize (x.N == 0) = a3
      generalize zl x.L = a4
      generalize zl x.Then = a5
      generalize zl x.Else = a6
      cases q.2 <;> cases a1 <;> cases a2 <;> cases a3 <;> cases a4 <;> cases a5 <;> cases a6 <;> rfl
    by_cases k2 : x.Kind = 2
    · simp only [k2, beq_self_eq_true, if_true, show ((2 : Int) == 1) = false from rfl, Bool.false_eq_true, if_false]
      generalize (x.Name == []) = a1
      generalize (x.Text == []) = a2
      generalize (x.N == 0) = a3
      generalize zl x.L = a4
      generalize zl x.Then = a5
      generalize zl x.Else = a6
      cases a1 <;> cases a2 <;> cases a3 <;> cases a4 <;> cases a5 <;> cases a6 <;> rfl
    by_cases k3 : x.Kind = 3
    · simp only [k3, beq_self_eq_true, if_true, show ((3 : Int) == 1) = false from rfl, show ((3 : Int) == 2) = false from rfl, Bool.false_eq_true, if_false]
      generalize (x.N == 0 || x.N == 1) = a0
      generalize (x.Name == []) = a1
      generalize (x.Text == []) = a2
      generalize (x.N == 0) = a3
      generalize zl x.L = a4
      generalize zl x.Then = a5
      generalize zl x.Else = a6
      cases a0 <;> cases a1 <;> cases a2 <;> cases a3 <;> cases a4 <;> cases a5 <;> cases a6 <;> rfl
    have nw : nameP x.Name = true → (x.Name == []) = false := fun h => word_ne (name_word h)
    have ww : wordP x.Name = true → (x.Name == []) = false := fun h => word_ne h
    by_cases k4 : x.Kind = 4
    · simp only [k4, beq_self_eq_true, if_true, show ((4 : Int) == 1) = false from rfl, show ((4 : Int) == 2) = false from rfl, show ((4 : Int) == 3) = false from rfl, Bool.false_eq_true, if_false]
      cases hn : nameP x.Name with
      | false => rfl
      | true =>
        rw [nw hn]
        generalize (x.Text == []) = a2
        generalize (x.N == 0) = a3
        generalize zl x.L = a4
        generalize zl x.Then = a5
        generalize zl x.Else = a6
        cases a2 <;> cases a3 <;> cases a4 <;> cases a5 <;> cases a6 <;> rfl
    by_cases k7 : x.Kind = 7
    · simp only [k7, beq_self_eq_true, if_true, show ((7 : Int) == 1) = false from rfl, show ((7 : Int) == 2) = false from rfl, show ((7 : Int) == 3) = false from rfl, show ((7 : Int) == 4) = false from rfl, show ((7 : Int) == 5) = false from rfl, show ((7 : Int) == 6) = false from rfl, Bool.false_eq_true, if_false]
      cases hn : wordP x.Name with
      | false => rfl
      | true =>
        rw [ww hn]
        generalize (x.Text == []) = a2
        generalize (x.N == 0) = a3
        generalize zl x.L = a4
        generalize zl x.Then = a5
        generalize zl x.Else = a6
        cases a2 <;> cases a3 <;> cases a4 <;> cases a5 <;> cases a6 <;> rfl
    have b1 : (x.Kind == 1) = false := beq_eq_false_iff_ne.2 k1
    have b2 : (x.Kind == 2) = false := beq_eq_false_iff_ne.2 k2
    have b3 : (x.Kind == 3) = false := beq_eq_false_iff_ne.2 k3
    have b4 : (x.Kind == 4) = false := beq_eq_false_iff_ne.2 k4
    have b7 : (x.Kind == 7) = false := beq_eq_false_iff_ne.2 k7
    simp only [b1, b2, b3, b4, b7, Bool.false_eq_true, if_false]
    by_cases k5 : x.Kind = 5
    · simp only [k5, beq_self_eq_true, if_true]
      cases hn : wordP x.Name with
      | false => rfl
      | true =>
        rw [ww hn]
        cases hl : (x.L.length == 1) with
        | false =>
          generalize (x.Text == []) = a2
          generalize (x.N == 0) = a3
          generalize zl x.Then = a5
          generalize zl x.Else = a6
          cases a2 <;> cases a3 <;> cases a5 <;> cases a6 <;> rfl
        | true =>
          have hl1 : x.L.length = 1 := by simpa using hl
          obtain ⟨y, hy⟩ := List.length_eq_one_iff.1 hl1
          have hy1 : nn y ≤ n := by have := nns_mem (show y ∈ x.L by rw [hy]; simp); omega
          have hy2 : allN okNd y := allL_mem (show y ∈ x.L by rw [hy]; simp) ho1
          rw [hy]
          simp only [idx_0, List.getElem?_cons_zero, bind_some', ih y (by omega) hy1 hy2, exprsP, Bool.and_true]
          generalize (x.Text == []) = a2
          generalize (x.N == 0) = a3
          generalize zl x.Then = a5
          generalize zl x.Else = a6
          generalize exprP y = a7
          cases a2 <;> cases a3 <;> cases a5 <;> cases a6 <;> cases a7 <;> rfl
    by_cases k6 : x.Kind = 6
    · simp only [k6, beq_self_eq_true, if_true, show ((6 : Int) == 5) = false from rfl, Bool.false_eq_true, if_false]
      cases hn : nameP x.Name with
      | false => rfl
      | true =>
        rw [nw hn]
        have hmin : ((x.L.length : Int) == (if 3 < (x.L.length : Int) then 3 else (x.L.length : Int))) = decide (x.L.length ≤ 3) := by
          by_cases h3 : x.L.length ≤ 3
          · rw [if_neg (by omega), decide_eq_true h3]; simp
          · rw [if_pos (by omega), decide_eq_false h3, beq_eq_false_iff_ne.2 (by omega)]
        rw [hmin]
        have hll := nns_len x.L
        obtain ⟨r, hr, hp⟩ := tExprL n (fun y => ih y (by omega)) x.L (by omega) ho1 (by omega) 0 (by omega)
        rw [slices_ContainsFunc_api_Node_api_Node_tree_expr_1, slices_IndexFunc_api_Node_api_Node_tree_expr_1, show (0 : Int) = ((0 : Nat) : Int) from rfl, hr]
        rw [List.drop_zero] at hp
        cases r with
        | inl u =>
          simp only at hp
          rw [hp]
          generalize (x.Text == []) = a2
          generalize (x.N == ((0 : Nat) : Int)) = a3
          generalize zl x.Then = a5
          generalize zl x.Else = a6
          generalize decide (x.L.length ≤ 3) = a7
          cases a2 <;> cases a3 <;> cases a5 <;> cases a6 <;> cases a7 <;> rfl
        | inr v =>
          simp only at hp
          have hv : decide (v ≥ ((0 : Nat) : Int)) = true := decide_eq_true (by omega)
          simp only [hp.2, bind_some', hv]
          generalize (x.Text == []) = a2
          generalize (x.N == ((0 : Nat) : Int)) = a3
          generalize zl x.Then = a5
          generalize zl x.Else = a6
          generalize decide (x.L.length ≤ 3) = a7
          cases a2 <;> cases a3 <;> cases a5 <;> cases a6 <;> cases a7 <;> rfl
    have b5 : (x.Kind == 5) = false := beq_eq_false_iff_ne.2 k5
    have b6 : (x.Kind == 6) = false := beq_eq_false_iff_ne.2 k6
    simp only [b5, b6, Bool.false_eq_true, if_false]

def bareB (x : api_Node) (p1 p2 p3 p4 p5 : Bool) : Bool := (p1 || x.Name == []) && ((p2 || x.Text == []) && ((p3 || x.N == 0) && ((p4 || zl x.L) && ((p5 || zl x.Then) && (x.Kind == 10 || zl x.Else)))))
theorem rBare (x : api_Node) (p1 p2 p3 p4 p5 : Bool) : R19_bare x p1 p2 p3 p4 p5 = some (bareB x p1 p2 p3 p4 p5) := by
  unfold R19_bare bareB
  simp only [zI]
  generalize (x.Name == []) = a1
  generalize (x.Text == []) = a2
  generalize (x.N == 0) = a3
  generalize zl x.L = a4
  generalize zl x.Then = a5
  generalize zl x.Else = a6
  generalize (x.Kind == 10) = a7
  have e : ∀ b : Bool, (if a7 = true then some true else some b : Option Bool) = some (a7 || b) := fun b => by cases a7 <;> rfl
  simp only [e]
  generalize (a7 || a6) = a8
  cases p1 <;> cases p2 <;> cases p3 <;> cases p4 <;> cases p5 <;> cases a1 <;> (try rfl) <;> cases a2 <;> (try rfl) <;> cases a3 <;> (try rfl) <;> cases a4 <;> (try rfl) <;> cases a5 <;> rfl
section
variable (n : Nat) (ih : ∀ x : api_Node, nn x ≤ n → allN okNd x → R19_expr x = some (exprP x))
include ih
theorem rExprsL (l : List api_Node) (h : nns l ≤ n) (ho : allL okNd l) (hl : l.length < 9223372036854775807) : ∀ k, k ≤ l.length → R19_exprs_L1 l k = some (if exprsP (l.drop k) then .inl () else .inr ()) := by
  refine upto ?_ fun k hk ihk => ?_
  · rw [R19_exprs_L1]; simp [exprsP]
  · have hx := nns_mem (List.getElem_mem hk)
    rw [R19_exprs_L1, wr_succ (by omega), ihk]
    simp only [ltI, hk, decide_true, if_true, idx_nat, getE hk, bind_some', ih l[k] (by omega) (allL_mem (List.getElem_mem hk) ho)]
    rw [dropE hk, exprsP]
    cases exprP l[k] <;> rfl
theorem rExprs (l : List api_Node) (h : nns l ≤ n) (ho : allL okNd l) (hl : l.length < 9223372036854775807) : R19_exprs l = some (exprsP l) := by
  have := rExprsL n ih l h ho hl 0 (by omega)
  rw [R19_exprs, show (0 : Int) = ((0 : Nat) : Int) from rfl, this, List.drop_zero]
  cases exprsP l <;> rfl
end
theorem rExpr : ∀ n (x : api_Node), n < 1000000000 → nn x ≤ n → allN okNd x → R19_expr x = some (exprP x) := by
  intro n
  induction n with
  | zero => intro x _ h; have := nn_pos x; omega
  | succ n ih =>
    intro x hb h ho
    rw [nn_eq] at h
    obtain ⟨hq, ho1, -, -⟩ := (allN_eq okNd x).1 ho
    have hnm := hq.nm
    have hll := nns_len x.L
    have hex := rExprs n (fun y => ih y (by omega)) x.L (by omega) ho1 (by omega)
    have el : decide ((x.L.length : Int) ≤ 3) = decide (x.L.length ≤ 3) := leN x.L.length 3
    rw [R19_expr, exprP_eq, rName x.Name (by omega), rWord x.Name (by omega), hex]
    simp only [bind_some', rBare, bareB, oneI, el]
    by_cases k1 : x.Kind = 1
    · obtain ⟨q, q1, q2⟩ := hq.qt k1
      have e10 : (x.Kind == 10) = false := beq_eq_false_iff_ne.2 (by omega)
      simp only [e10]
      simp only [k1, beq_self_eq_true, if_true, q2, q1, bind_some', quoteP, Option.getD_some]
      generalize (x.Name == []) = a1
      generalize (x.N == 0) = a3
      generalize zl x.L = a4
      generalize zl x.Then = a5
      generalize zl x.Else = a6
      cases q.2 <;> cases a1 <;> cases a3 <;> cases a4 <;> cases a5 <;> cases a6 <;> rfl
    have b1 : (x.Kind == 1) = false := beq_eq_false_iff_ne.2 k1
    by_cases h10 : x.Kind = 10
    · simp only [h10]; rfl
    have e10 : (x.Kind == 10) = false := beq_eq_false_iff_ne.2 h10
    simp only [e10, b1, Bool.false_eq_true, if_false, Bool.false_or, Bool.true_or, Bool.true_and]
    generalize (x.Kind == 2) = k2
    generalize (x.Kind == 3) = k3
    generalize (x.Kind == 4) = k4
    generalize (x.Kind == 5) = k5
    generalize (x.Kind == 6) = k6
    generalize (x.Kind == 7) = k7
    generalize (x.Name == []) = a1
    generalize (x.Text == []) = a2
    generalize (x.N == 0) = a3
    generalize (x.N == 1) = a8
    generalize zl x.L = a4
    generalize zl x.Then = a5
    generalize zl x.Else = a6
    generalize nameP x.Name = n1
    generalize wordP x.Name = n2
    generalize (x.L.length == 1) = l1
    generalize decide (x.L.length ≤ 3) = l3
    generalize exprsP x.L = ex
    cases k2
    · cases k3
      · cases k4
        · cases k5
          · cases k6
            · cases k7
              · rfl
              · cases n2 <;> rfl
            · cases n1 <;> (try rfl) <;> cases l3 <;> (try rfl) <;> cases ex <;> rfl
          · cases n2 <;> (try rfl) <;> cases l1 <;> (try rfl) <;> cases ex <;> rfl
        · cases n1 <;> rfl
      · cases a3 <;> (try rfl) <;> cases a8 <;> rfl
    · rfl
def litB : List api_Node → Bool
  | [] => false
  | x :: _ => x.Kind == 8
/-- What may not stand so: a literal, and behind it another, or at whose end there is an open one. -/
def badB (x : api_Node) (r : List api_Node) (inn : Bool) : Bool := x.Kind == 8 && (litB r || ((!r.isEmpty || inn) && endB x.Text))
mutual
noncomputable def stmtP : api_Node → Bool
  | ⟨k, s, t, n, a, b, c⟩ =>
    if k == 8 then !(t == []) && (!(hasB t) && (s == [] && (n == 0 && (zl a && (zl b && zl c))))) else
    if k == 9 then (a.length == 1 && exprsP a) && (s == [] && (t == [] && (n == 0 && (zl b && zl c)))) else
    if k == 10 then (a.length == 1 && exprsP a) && ((blockP b true && blockP c true) && (s == [] && (t == [] && n == 0))) else
    if k == 11 || k == 12 then nameP s && ((a.length == 1 && exprsP a) && (blockP b true && (t == [] && (n == 0 && zl c)))) else
    if k == 13 then nameP s && ((a.length == 1 && exprsP a) && (t == [] && (n == 0 && (zl b && zl c)))) else false
noncomputable def blockP : List api_Node → Bool → Bool
  | [], _ => true
  | x :: r, inn => stmtP x && (!(badB x r inn) && blockP r inn)
end
theorem stmtP_eq (x : api_Node) : stmtP x =
    if x.Kind == 8 then !(x.Text == []) && (!(hasB x.Text) && (x.Name == [] && (x.N == 0 && (zl x.L && (zl x.Then && zl x.Else))))) else
    if x.Kind == 9 then (x.L.length == 1 && exprsP x.L) && (x.Name == [] && (x.Text == [] && (x.N == 0 && (zl x.Then && zl x.Else)))) else
    if x.Kind == 10 then (x.L.length == 1 && exprsP x.L) && ((blockP x.Then true && blockP x.Else true) && (x.Name == [] && (x.Text == [] && x.N == 0))) else
    if x.Kind == 11 || x.Kind == 12 then nameP x.Name && ((x.L.length == 1 && exprsP x.L) && (blockP x.Then true && (x.Text == [] && (x.N == 0 && zl x.Else)))) else
    if x.Kind == 13 then nameP x.Name && ((x.L.length == 1 && exprsP x.L) && (x.Text == [] && (x.N == 0 && (zl x.Then && zl x.Else)))) else false := by cases x; rw [stmtP]
theorem zl_nil {l : List api_Node} (h : zl l = true) : l = [] := List.eq_nil_of_length_eq_zero (by simpa [zl] using h)
theorem block_nil (b : Bool) : blockP [] b = true := by rw [blockP]
theorem stmt_text {x : api_Node} (h : stmtP x = true) (hk : x.Kind = 8) : (x.Text == []) = false := by
  rw [stmtP_eq, hk] at h
  simp only [beq_self_eq_true, if_true] at h
  cases ht : (x.Text == []) with
  | false => rfl
  | true => rw [ht] at h; cases h
theorem lastI (k n : Nat) (hk : k < n) (hn : n < 9223372036854775807) : ((k : Int) == wr ((n : Int) - 1)) = (k + 1 == n) := by
  have e : wr ((n : Int) - 1) = ((n - 1 : Nat) : Int) := by rw [wr_in (by omega) (by omega)]; omega
  rw [e, eqN]
  by_cases h : k + 1 = n
  · rw [beq_iff_eq.2 h, beq_iff_eq.2 (by omega)]
  · rw [beq_eq_false_iff_ne.2 h, beq_eq_false_iff_ne.2 (by omega)]
theorem dropNil {l : List api_Node} {k : Nat} (hk : k < l.length) : (l.drop (k + 1)).isEmpty = (k + 1 == l.length) := by
  by_cases h : k + 1 = l.length
  · rw [List.drop_eq_nil_of_le (by omega), beq_iff_eq.2 h]; rfl
  · rw [beq_eq_false_iff_ne.2 h, dropE (by omega : k + 1 < l.length)]; rfl
end Go.Proofs.Ytebkhehjfkmdiaa
end
