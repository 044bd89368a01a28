/- The proof's texts, part 9 of 10: the walks by a logic in which data are by value, the plain laws, and at the end the law, for every input. -/
import Derived.Test.YtebkhehjfkmdiaaDoorMgLexQuotes8

section
set_option linter.unusedVariables false
set_option linter.unusedSimpArgs false
namespace Go.Proofs.YtebkhehjfkmdiaaDoor
open Go.RowKit

theorem lex_machine_run_lex_letter_L1_ok : ∀ (h0_0 : (List UInt8)) (h0_1 : Int) (h0_2 : (List api_Token)) (v7 : Int) (o1 : Int), lex_machine_run_lex_letter_L1 h0_0 h0_1 h0_2 v7 = some o1 → TL (1, 1) Tryd.prog 38 lex_machine_run_lex_letter_L1_c (JP1 (1, 1) 38 o1 (.exit 0) (lex_machine_run_lex_letter_L1_x0 h0_0 h0_1 h0_2)) (lex_machine_run_lex_letter_L1_st h0_0 h0_1 h0_2 v7) := fun h0_0 h0_1 h0_2 v7 o1 h => (lex_machine_run_lex_letter_L1_grp h0_0 h0_1 h0_2) v7 o1 h
noncomputable def lex_machine_run_lex_letter (p1 : Int) (h0_0 : (List UInt8)) (h0_1 : Int) (h0_2 : (List api_Token)) : Option ((List UInt8)) :=
  (lex_machine_run_lex_letter_L1 h0_0 h0_1 h0_2 p1) >>= fun o1 =>
  cutL h0_0 h0_1 o1 >>= fun x5 =>
  some x5
set_option maxRecDepth 100000 in
set_option maxHeartbeats 4000000 in
theorem lex_machine_run_lex_letter_ok : ∀ (p1 : Int) (h0_0 : (List UInt8)) (h0_1 : Int) (h0_2 : (List api_Token)) (o : (List UInt8)), lex_machine_run_lex_letter p1 h0_0 h0_1 h0_2 = some o → CallOK Tryd.prog 101 [.ptr 0 0, .p (iV p1), .fn (.func 62) [] []] ⟨[[.p (sV h0_0), .p (iV h0_1), .own 0 42 5 (h0_2.map c_api_Token)]], [(h0_2.map c_api_Token).length]⟩ (t_lex_machine_run_lex_letter o) ⟨[[.p (sV h0_0), .p (iV h0_1), .own 0 42 5 (h0_2.map c_api_Token)]], [(h0_2.map c_api_Token).length]⟩ := by
  intro p1 h0_0 h0_1 h0_2 o h
  unfold lex_machine_run_lex_letter at h
  refine CallOK.ofB mixed tbOk lex_machine_run_lex_letter_lv Tryd.func101 rfl (by kernel_rfl) (Nat.le_of_ble_eq_true rfl) rfl rfl rfl ?_
  refine st_bind h (fun o1 ho hk => ?_)
  refine Exists.intro (JP1 _ _ o1 (.exit 0) (lex_machine_run_lex_letter_L1_x0 h0_0 h0_1 h0_2)) (And.intro (T_le (τ := lex_machine_run_lex_letter_L1_st h0_0 h0_1 h0_2 p1) ?_ (TL.loop (lex_machine_run_lex_letter_L1_ok h0_0 h0_1 h0_2 p1 o1 ho))) (join1 ?_))
  · exact Le.tow 1 1 rfl (.cons rfl (.refl _) (.cons rfl (.refl _) (.cons rfl (.refl _) (.nil)))) (.refl _) rfl
  have h := hk
  refine And.intro (by decide +kernel) (And.intro rfl ?_)
  refine st_cuts (some h0_1) (some o1) h (fun x5 hi h => ?_)
  refine Exists.intro _ (And.intro (Le.refl _ _ _) ?_)
  exact st_retc (t := t_lex_machine_run_lex_letter) (ss := fun o => ⟨[[.p (sV h0_0), .p (iV h0_1), .own 0 42 5 (h0_2.map c_api_Token)]], [(h0_2.map c_api_Token).length]⟩) h ⟨[0], rfl, .refl _, .refl _, rfl⟩
noncomputable def lex_machine_word (h0_0 : (List UInt8)) (h0_1 : Int) (h0_2 : (List api_Token)) : Option (Bool × Int × (List api_Token)) :=
  lex_machine_run_lex_letter h0_1 h0_0 h0_1 h0_2 >>= fun x1 =>
  lex_Word x1 >>= fun x2 =>
  if (!x2) then
    some (false, h0_1, h0_2)
  else
    lex_machine_put_2 4 x1 0 (x1.length : Int) h0_0 h0_1 h0_2 >>= fun x3 =>
    some (true, x3.1, x3.2)
set_option maxRecDepth 100000 in
set_option maxHeartbeats 4000000 in
theorem lex_machine_word_ok : ∀ (h0_0 : (List UInt8)) (h0_1 : Int) (h0_2 : (List api_Token)) (o : Bool × Int × (List api_Token)), lex_machine_word h0_0 h0_1 h0_2 = some o → CallOK Tryd.prog 80 [.ptr 0 0] ⟨[[.p (sV h0_0), .p (iV h0_1), .own 0 42 5 (h0_2.map c_api_Token)]], [(h0_2.map c_api_Token).length]⟩ (t_lex_machine_word o) ⟨[[.p (sV h0_0), .p (iV o.2.1), .own 0 42 5 (o.2.2.map c_api_Token)]], [(o.2.2.map c_api_Token).length]⟩ := by
  intro h0_0 h0_1 h0_2 o h
  unfold lex_machine_word at h
  refine CallOK.ofB mixed tbOk lex_machine_word_lv Tryd.func80 rfl (by kernel_rfl) (Nat.le_of_ble_eq_true rfl) rfl rfl rfl ?_
  refine st_callc _ _ h (fun x1 hy => ((lex_machine_run_lex_letter_ok h0_1 h0_0 h0_1 h0_2 x1 hy).fr [0] [0] rfl rfl rfl)) (fun x1 hy h => ?_)
  refine st_call [sV x1] t_lex_Word h (fun x2 hy => (lex_Word_ok x1 x2 hy)) (fun x2 hy h => ?_)
  refine st_test h (fun hb h => ?_) (fun hb h => ?_)
  · refine Exists.intro _ (And.intro (Le.refl _ _ _) ?_)
    exact st_retc (t := t_lex_machine_word) (ss := fun o => ⟨[[.p (sV h0_0), .p (iV o.2.1), .own 0 42 5 (o.2.2.map c_api_Token)]], [(o.2.2.map c_api_Token).length]⟩) h ⟨[0], rfl, .refl _, .refl _, rfl⟩
  · refine vrfl ?_
    refine st_callc _ _ h (fun x3 hy => ((lex_machine_put_2_ok 4 x1 0 (x1.length : Int) h0_0 h0_1 h0_2 x3 hy).fr [0] [0] rfl rfl rfl)) (fun x3 hy h => ?_)
    refine Exists.intro _ (And.intro (Le.refl _ _ _) ?_)
    exact st_retc (t := t_lex_machine_word) (ss := fun o => ⟨[[.p (sV h0_0), .p (iV o.2.1), .own 0 42 5 (o.2.2.map c_api_Token)]], [(o.2.2.map c_api_Token).length]⟩) h ⟨[0], rfl, .refl _, .refl _, rfl⟩
noncomputable def lex_machine_token_2 (h0_0 : (List UInt8)) (h0_1 : Int) (h0_2 : (List api_Token)) : Option (Bool × Int × (List api_Token)) :=
  idx h0_0 h0_1 >>= fun x1 =>
  if ((x1.toNat : Int) == 34) then
    lex_machine_text h0_0 h0_1 h0_2 >>= fun x2 =>
    some (x2.1, x2.2.1, x2.2.2)
  else
    ( if ((x1.toNat : Int) == 45) then
        some true
      else
        lex_digit (x1.toNat : Int) >>= fun x4 =>
        some x4 : Option (Bool)) >>= fun o3 =>
    if o3 then
      lex_machine_number h0_0 h0_1 h0_2 >>= fun x5 =>
      some (x5.1, x5.2.1, x5.2.2)
    else
      lex_letter (x1.toNat : Int) >>= fun x6 =>
      if x6 then
        lex_machine_word h0_0 h0_1 h0_2 >>= fun x7 =>
        some (x7.1, x7.2.1, x7.2.2)
      else
        lex_machine_sign h0_0 h0_1 h0_2 >>= fun x8 =>
        some (x8.1, x8.2.1, x8.2.2)
set_option maxRecDepth 100000 in
set_option maxHeartbeats 4000000 in
theorem lex_machine_token_2_ok : ∀ (h0_0 : (List UInt8)) (h0_1 : Int) (h0_2 : (List api_Token)) (o : Bool × Int × (List api_Token)), lex_machine_token_2 h0_0 h0_1 h0_2 = some o → CallOK Tryd.prog 53 [.ptr 0 0] ⟨[[.p (sV h0_0), .p (iV h0_1), .own 0 42 5 (h0_2.map c_api_Token)]], [(h0_2.map c_api_Token).length]⟩ (t_lex_machine_token_2 o) ⟨[[.p (sV h0_0), .p (iV o.2.1), .own 0 42 5 (o.2.2.map c_api_Token)]], [(o.2.2.map c_api_Token).length]⟩ := by
  intro h0_0 h0_1 h0_2 o h
  unfold lex_machine_token_2 at h
  refine CallOK.ofB mixed tbOk lex_machine_token_2_lv Tryd.func53 rfl (by kernel_rfl) (Nat.le_of_ble_eq_true rfl) rfl rfl rfl ?_
  refine And.intro (by decide +kernel) (And.intro rfl ?_)
  refine st_sidx h (fun x1 hi h => ?_)
  refine st_test h (fun hb h => ?_) (fun hb h => ?_)
  · refine st_callc _ _ h (fun x2 hy => ((lex_machine_text_ok h0_0 h0_1 h0_2 x2 hy).fr [0] [0] rfl rfl rfl)) (fun x2 hy h => ?_)
    refine Exists.intro _ (And.intro (Le.refl _ _ _) ?_)
    exact st_retc (t := t_lex_machine_token_2) (ss := fun o => ⟨[[.p (sV h0_0), .p (iV o.2.1), .own 0 42 5 (o.2.2.map c_api_Token)]], [(o.2.2.map c_api_Token).length]⟩) h ⟨[0], rfl, .refl _, .refl _, rfl⟩
  · refine st_bind h (fun o3 ho hk => ?_)
    refine Exists.intro (JP1 _ _ o3 .normal (lex_machine_token_2_J0_0 h0_0 h0_1 h0_2 x1)) (And.intro ?_ (join1 ?_))
    · have h := ho
      refine st_test h (fun hb h => ?_) (fun hb h => ?_)
      · refine JP1.a h ?_
        exact Le.tow 1 1 rfl (.cons rfl (.refl _) (.cons rfl (.refl _) (.cons rfl (.refl _) (.nil)))) (.refl _) rfl
      · refine st_call [nV .u8 (x1.toNat : Int)] t_lex_digit h (fun x4 hy => (lex_digit_ok (x1.toNat : Int) x4 hy)) (fun x4 hy h => ?_)
        refine JP1.a h ?_
        exact Le.tow 1 1 rfl (.cons rfl (.refl _) (.cons rfl (.refl _) (.cons rfl (.refl _) (.nil)))) (.refl _) rfl
    · have h := hk
      refine st_test h (fun hb h => ?_) (fun hb h => ?_)
      · refine st_callc _ _ h (fun x5 hy => ((lex_machine_number_ok h0_0 h0_1 h0_2 x5 hy).fr [0] [0] rfl rfl rfl)) (fun x5 hy h => ?_)
        refine Exists.intro _ (And.intro (Le.refl _ _ _) ?_)
        exact st_retc (t := t_lex_machine_token_2) (ss := fun o => ⟨[[.p (sV h0_0), .p (iV o.2.1), .own 0 42 5 (o.2.2.map c_api_Token)]], [(o.2.2.map c_api_Token).length]⟩) h ⟨[0], rfl, .refl _, .refl _, rfl⟩
      · refine st_call [nV .u8 (x1.toNat : Int)] t_lex_letter h (fun x6 hy => (lex_letter_ok (x1.toNat : Int) x6 hy)) (fun x6 hy h => ?_)
        refine st_test h (fun hb h => ?_) (fun hb h => ?_)
        · refine st_callc _ _ h (fun x7 hy => ((lex_machine_word_ok h0_0 h0_1 h0_2 x7 hy).fr [0] [0] rfl rfl rfl)) (fun x7 hy h => ?_)
          refine Exists.intro _ (And.intro (Le.refl _ _ _) ?_)
          exact st_retc (t := t_lex_machine_token_2) (ss := fun o => ⟨[[.p (sV h0_0), .p (iV o.2.1), .own 0 42 5 (o.2.2.map c_api_Token)]], [(o.2.2.map c_api_Token).length]⟩) h ⟨[0], rfl, .refl _, .refl _, rfl⟩
        · refine st_callc _ _ h (fun x8 hy => ((lex_machine_sign_ok h0_0 h0_1 h0_2 x8 hy).fr [0] [0] rfl rfl rfl)) (fun x8 hy h => ?_)
          refine Exists.intro _ (And.intro (Le.refl _ _ _) ?_)
          exact st_retc (t := t_lex_machine_token_2) (ss := fun o => ⟨[[.p (sV h0_0), .p (iV o.2.1), .own 0 42 5 (o.2.2.map c_api_Token)]], [(o.2.2.map c_api_Token).length]⟩) h ⟨[0], rfl, .refl _, .refl _, rfl⟩
noncomputable def strings_HasPrefix (p0 : (List UInt8)) (p1 : (List UInt8)) : Option (Bool) :=
  internal_stringslite_HasPrefix p0 p1 >>= fun x1 =>
  some x1
set_option maxRecDepth 100000 in
set_option maxHeartbeats 4000000 in
theorem strings_HasPrefix_ok : ∀ (p0 : (List UInt8)) (p1 : (List UInt8)) (o : Bool), strings_HasPrefix p0 p1 = some o → PCall Tryd.prog 76 [sV p0, sV p1] (t_strings_HasPrefix o) := by
  intro p0 p1 o h
  unfold strings_HasPrefix at h
  refine PCall.ofB mixed tbOk strings_HasPrefix_lv Tryd.func76 rfl (by kernel_rfl) (Nat.le_of_ble_eq_true rfl) ?_
  refine st_call [sV p0, sV p1] t_internal_stringslite_HasPrefix h (fun x1 hy => (internal_stringslite_HasPrefix_ok p0 p1 x1 hy)) (fun x1 hy h => ?_)
  refine st_ret (t := t_strings_HasPrefix) h ?_
  exact .refl _
noncomputable def octet_Begins (p0 : (List UInt8)) (p1 : (List UInt8)) (p2 : Int) : Option (Bool) :=
  ( if (decide (p2 ≥ 0)) then
      if (decide (p2 ≤ (p0.length : Int))) then
        cutL p0 p2 (p0.length : Int) >>= fun x2 =>
        strings_HasPrefix x2 p1 >>= fun x3 =>
        some x3
      else
        some false
    else
      some false : Option (Bool)) >>= fun o1 =>
  some o1
set_option maxRecDepth 100000 in
set_option maxHeartbeats 4000000 in
theorem octet_Begins_ok : ∀ (p0 : (List UInt8)) (p1 : (List UInt8)) (p2 : Int) (o : Bool), octet_Begins p0 p1 p2 = some o → PCall Tryd.prog 52 [sV p0, sV p1, iV p2] (t_octet_Begins o) := by
  intro p0 p1 p2 o h
  unfold octet_Begins at h
  refine PCall.ofB mixed tbOk octet_Begins_lv Tryd.func52 rfl (by kernel_rfl) (Nat.le_of_ble_eq_true rfl) ?_
  refine st_bind h (fun o1 ho hk => ?_)
  refine Exists.intro (JP1 _ _ o1 .normal (octet_Begins_J0_0 )) (And.intro ?_ (join1 ?_))
  · have h := ho
    refine st_test h (fun hb h => ?_) (fun hb h => ?_)
    · refine vrfl ?_
      refine st_test h (fun hb h => ?_) (fun hb h => ?_)
      · refine st_cuts (some p2) none h (fun x2 hi h => ?_)
        refine st_call [sV x2, sV p1] t_strings_HasPrefix h (fun x3 hy => (strings_HasPrefix_ok x2 p1 x3 hy)) (fun x3 hy h => ?_)
        refine JP1.a h ?_
        exact Le.tow 0 0 rfl (.cons rfl (.refl _) (.nil)) (.refl _) rfl
      · refine JP1.a h ?_
        exact Le.tow 0 0 rfl (.cons rfl (.refl _) (.nil)) (.refl _) rfl
    · refine bF ?_
      refine JP1.a h ?_
      exact Le.tow 0 0 rfl (.cons rfl (.refl _) (.nil)) (.refl _) rfl
  · have h := hk
    refine st_ret (t := t_octet_Begins) h ?_
    exact .refl _
noncomputable def strings_Index (p0 : (List UInt8)) (p1 : (List UInt8)) : Option (Int) :=
  internal_stringslite_Index p0 p1 >>= fun x1 =>
  some x1
set_option maxRecDepth 100000 in
set_option maxHeartbeats 4000000 in
theorem strings_Index_ok : ∀ (p0 : (List UInt8)) (p1 : (List UInt8)) (o : Int), strings_Index p0 p1 = some o → PCall Tryd.prog 49 [sV p0, sV p1] (t_strings_Index o) := by
  intro p0 p1 o h
  unfold strings_Index at h
  refine PCall.ofB mixed tbOk strings_Index_lv Tryd.func49 rfl (by kernel_rfl) (Nat.le_of_ble_eq_true rfl) ?_
  refine st_call [sV p0, sV p1] t_internal_stringslite_Index h (fun x1 hy => (internal_stringslite_Index_ok p0 p1 x1 hy)) (fun x1 hy h => ?_)
  refine st_ret (t := t_strings_Index) h ?_
  exact .refl _
mutual
noncomputable def lex_Tokens_S1_0 (p0 : (List UInt8)) (w0 : Int × (List api_Token)) : Option (((List api_Token) × Int × Int)) :=
  cutL p0 w0.1 (p0.length : Int) >>= fun x2 =>
  strings_Index x2 [123, 123] >>= fun x3 =>
  ( if (decide (x3 < 0)) then
      some (wr ((p0.length : Int) - w0.1))
    else
      some x3 : Option (Int)) >>= fun o4 =>
  ( if (decide (o4 > 0)) then
      cutL p0 w0.1 (wr (w0.1 + o4)) >>= fun x6 =>
      lex_machine_put_2 1 x6 0 o4 p0 w0.1 w0.2 >>= fun x7 =>
      some (x7.1, x7.2)
    else
      some (w0.1, w0.2) : Option ((Int × (List api_Token)))) >>= fun o5 =>
  if (o5.1 == (p0.length : Int)) then
    some (o5.2, 0, 0)
  else
    lex_machine_put_2 2 [] 0 2 p0 o5.1 o5.2 >>= fun x8 =>
    lex_machine_blanks_2 p0 x8.1 x8.2 >>= fun x9 =>
    ( octet_Begins p0 [35] x9 >>= fun x13 =>
      if x13 then
        cutL p0 x9 (p0.length : Int) >>= fun x14 =>
        strings_Index x14 [125, 125] >>= fun x15 =>
        if (decide (x15 < 0)) then
          some (.inr ())
        else
          some (.inl (wr (x9 + x15)))
      else
        some (.inl x9) : Option (Int ⊕ Unit)) >>= fun o10 =>
    match o10 with
    | .inl y11 =>
      lex_Tokens_S1_1 p0 (y11, x8.2)
    | .inr y12 =>
      some ([], (p0.length : Int), 7)
  partial_fixpoint
noncomputable def lex_Tokens_S1_1 (p0 : (List UInt8)) (w1 : Int × (List api_Token)) : Option (((List api_Token) × Int × Int)) :=
  lex_machine_blanks_2 p0 w1.1 w1.2 >>= fun x16 =>
  octet_Begins p0 [125, 125] x16 >>= fun x17 =>
  if x17 then
    lex_machine_put_2 3 [] 0 2 p0 x16 w1.2 >>= fun x18 =>
    lex_Tokens_S1_0 p0 (x18.1, x18.2)
  else
    ( if (x16 == (p0.length : Int)) then
        some (true, x16, w1.2)
      else
        lex_machine_token_2 p0 x16 w1.2 >>= fun x20 =>
        some ((!x20.1), x20.2.1, x20.2.2) : Option ((Bool × Int × (List api_Token)))) >>= fun o19 =>
    if o19.1 then
      some ([], o19.2.1, 7)
    else
      lex_Tokens_S1_1 p0 (o19.2.1, o19.2.2)
  partial_fixpoint
end
set_option maxRecDepth 100000 in
set_option maxHeartbeats 4000000 in
theorem lex_Tokens_S1_0_grp : ∀ (p0 : (List UInt8)), (∀ (w0 : Int × (List api_Token)) (o1 : ((List api_Token) × Int × Int)), lex_Tokens_S1_0 p0 w0 = some o1 → TG (0, 0) Tryd.prog 112 lex_Tokens_S1_c (behind lex_Tokens_S1_c 0) (JP1 (0, 0) 112 o1 .ret (lex_Tokens_S1_x0 p0)) (lex_Tokens_S1_0_st p0 w0)) ∧ (∀ (w1 : Int × (List api_Token)) (o1 : ((List api_Token) × Int × Int)), lex_Tokens_S1_1 p0 w1 = some o1 → TG (0, 0) Tryd.prog 112 lex_Tokens_S1_c (behind lex_Tokens_S1_c 1) (JP1 (0, 0) 112 o1 .ret (lex_Tokens_S1_x0 p0)) (lex_Tokens_S1_1_st p0 w1)) := by
  intro p0
  refine lex_Tokens_S1_0.mutual_partial_correctness p0 _ _ ?_ ?_
  · intro lex_Tokens_S1_1' ih_lex_Tokens_S1_1 w0 o1 h
    refine TG.seqb mixed tbOk (lv := lex_Tokens_lv) ?_
    refine st_cuts (some w0.1) none h (fun x2 hi h => ?_)
    refine st_call [sV x2, sV [123, 123]] t_strings_Index h (fun x3 hy => (strings_Index_ok x2 [123, 123] x3 hy)) (fun x3 hy h => ?_)
    refine TG.seqj mixed tbOk (lv := lex_Tokens_lv) ?_
    refine st_bind h (fun o4 ho hk => ?_)
    refine Exists.intro (JP1 _ _ o4 .normal (lex_Tokens_J0_0 p0 w0)) (And.intro ?_ (join1 ?_))
    · have h := ho
      refine st_test h (fun hb h => ?_) (fun hb h => ?_)
      · refine vrfl ?_
        refine JP1.a h ?_
        exact Le.tow 1 1 rfl (.cons rfl (.refl _) (.cons rfl (.refl _) (.cons rfl (.refl _) (.nil)))) (.refl _) rfl
      · refine JP1.a h ?_
        exact Le.tow 1 1 rfl (.cons rfl (.refl _) (.cons rfl (.refl _) (.cons rfl (.refl _) (.nil)))) (.refl _) rfl
    · have h := hk
      refine TG.seqj mixed tbOk (lv := lex_Tokens_lv) ?_
      refine st_bind h (fun o5 ho hk => ?_)
      refine Exists.intro (JP1 _ _ o5 .normal (lex_Tokens_J1_0 p0)) (And.intro ?_ (join1 ?_))
      · have h := ho
        refine st_test h (fun hb h => ?_) (fun hb h => ?_)
        · refine And.intro (by decide +kernel) (And.intro rfl ?_)
          refine st_cuts (some w0.1) (some (wr (w0.1 + o4))) h (fun x6 hi h => ?_)
          refine st_callh _ _ h (fun x7 hy => ((lex_machine_put_2_ok 1 x6 0 o4 p0 w0.1 w0.2 x7 hy).fr [0] [0] rfl rfl rfl)) (fun x7 => Nat.le_of_ble_eq_true rfl) (fun x7 hy h => ?_)
          refine JP1.a h ?_
          exact Le.tow 1 1 rfl (.cons rfl (.refl _) (.cons rfl (.refl _) (.nil))) (.refl _) rfl
        · refine JP1.a h ?_
          exact Le.tow 1 1 rfl (.cons rfl (.refl _) (.cons rfl (.refl _) (.nil))) (.refl _) rfl
      · have h := hk
        refine TG.seqb mixed tbOk (lv := lex_Tokens_lv) ?_
        refine vrfl ?_
        refine st_test h (fun hb h => ?_) (fun hb h => ?_)
        · refine JP1.a h ?_
          exact Le.tow 0 0 rfl (.cons rfl (.refl _) (.cons rfl (.refl _) (.cons rfl (.refl _) (.nil)))) (.refl _) rfl
        · refine TG.seqb mixed tbOk (lv := lex_Tokens_lv) ?_
          refine st_callc _ _ h (fun x8 hy => ((lex_machine_put_2_ok 2 [] 0 2 p0 o5.1 o5.2 x8 hy).fr [0] [0] rfl rfl rfl)) (fun x8 hy h => ?_)
          refine TG.seqb mixed tbOk (lv := lex_Tokens_lv) ?_
          refine st_callc _ _ h (fun x9 hy => ((lex_machine_blanks_2_ok p0 x8.1 x8.2 x9 hy).fr [0] [0] rfl rfl rfl)) (fun x9 hy h => ?_)
          refine TG.seqj mixed tbOk (lv := lex_Tokens_lv) ?_
          refine st_bind h (fun o10 ho hk => ?_)
          refine Exists.intro (JP2 _ _ o10 .normal (lex_Tokens_J2_0 p0 x8 x9) .ret (lex_Tokens_J2_1 p0 x8 x9)) (And.intro ?_ (join2 (fun y11 hy => ?_) (fun y12 hy => ?_)))
          · have h := ho
            refine st_call [sV p0, sV [35], iV x9] t_octet_Begins h (fun x13 hy => (octet_Begins_ok p0 [35] x9 x13 hy)) (fun x13 hy h => ?_)
            refine st_test h (fun hb h => ?_) (fun hb h => ?_)
            · refine st_cuts (some x9) none h (fun x14 hi h => ?_)
              refine st_call [sV x14, sV [125, 125]] t_strings_Index h (fun x15 hy => (strings_Index_ok x14 [125, 125] x15 hy)) (fun x15 hy h => ?_)
              refine st_test h (fun hb h => ?_) (fun hb h => ?_)
              · refine vrfl ?_
                refine JP2.b h ?_
                exact Le.tow 1 1 rfl (.cons rfl (.refl _) (.cons rfl (.refl _) (.cons rfl (.refl _) (.nil)))) (.refl _) rfl
              · refine JP2.a h ?_
                exact Le.tow 1 1 rfl (.cons rfl (.refl _) (.cons rfl (.refl _) (.nil))) (.refl _) rfl
            · refine JP2.a h ?_
              exact Le.tow 1 1 rfl (.cons rfl (.refl _) (.cons rfl (.refl _) (.nil))) (.refl _) rfl
          · have h := (by rw [hy] at hk; exact hk)
            refine TG.label (TG.le (τ := lex_Tokens_S1_1_st p0 (y11, x8.2)) ?_ ((ih_lex_Tokens_S1_1 (y11, x8.2) _ h)))
            exact Le.tow 1 1 rfl (.cons rfl (.refl _) (.cons rfl (.refl _) (.nil))) (.refl _) rfl
          · have h := (by rw [hy] at hk; exact hk)
            refine JP1.a h ?_
            exact Le.tow 0 0 rfl (.cons rfl (.p (.not)) (.cons rfl (.refl _) (.cons rfl (.refl _) (.nil)))) (.refl _) rfl
  · intro lex_Tokens_S1_0' lex_Tokens_S1_1' ih_lex_Tokens_S1_0 ih_lex_Tokens_S1_1 w1 o1 h
    refine TG.seqb mixed tbOk (lv := lex_Tokens_lv) ?_
    refine st_callc _ _ h (fun x16 hy => ((lex_machine_blanks_2_ok p0 w1.1 w1.2 x16 hy).fr [0] [0] rfl rfl rfl)) (fun x16 hy h => ?_)
    refine TG.seqb mixed tbOk (lv := lex_Tokens_lv) ?_
    refine st_call [sV p0, sV [125, 125], iV x16] t_octet_Begins h (fun x17 hy => (octet_Begins_ok p0 [125, 125] x16 x17 hy)) (fun x17 hy h => ?_)
    refine st_test h (fun hb h => ?_) (fun hb h => ?_)
    · refine st_callc _ _ h (fun x18 hy => ((lex_machine_put_2_ok 3 [] 0 2 p0 x16 w1.2 x18 hy).fr [0] [0] rfl rfl rfl)) (fun x18 hy h => ?_)
      refine Exists.intro _ (And.intro rfl (TG.skip (TG.le (τ := lex_Tokens_S1_0_st p0 (x18.1, x18.2)) ?_ ((ih_lex_Tokens_S1_0 (x18.1, x18.2) _ h)))))
      exact Le.tow 1 1 rfl (.cons rfl (.refl _) (.cons rfl (.refl _) (.nil))) (.refl _) rfl
    · refine TG.seqb mixed tbOk (lv := lex_Tokens_lv) ?_
      refine st_bind h (fun o19 ho hk => ?_)
      refine Exists.intro (JP1 _ _ o19 .normal (lex_Tokens_J3_0 p0)) (And.intro ?_ (join1 ?_))
      · have h := ho
        refine vrfl ?_
        refine st_test h (fun hb h => ?_) (fun hb h => ?_)
        · refine JP1.a h ?_
          exact Le.tow 1 1 rfl (.cons rfl (.refl _) (.cons rfl (.refl _) (.cons rfl (.refl _) (.nil)))) (.refl _) rfl
        · refine st_callc _ _ h (fun x20 hy => ((lex_machine_token_2_ok p0 x16 w1.2 x20 hy).fr [0] [0] rfl rfl rfl)) (fun x20 hy h => ?_)
          refine JP1.a h ?_
          exact Le.tow 1 1 rfl (.cons rfl (.refl _) (.cons rfl (.refl _) (.cons rfl (.refl _) (.nil)))) (.refl _) rfl
      · have h := hk
        refine st_test h (fun hb h => ?_) (fun hb h => ?_)
        · refine And.intro (by decide +kernel) (And.intro rfl ?_)
          refine JP1.a h ?_
          exact Le.tow 0 0 rfl (.cons rfl (.p (.not)) (.cons rfl (.refl _) (.cons rfl (.refl _) (.nil)))) (.refl _) rfl
        · refine TG.lastb mixed tbOk (lv := lex_Tokens_lv) ?_
          refine Exists.intro _ (And.intro rfl (TG.skip (TG.le (τ := lex_Tokens_S1_1_st p0 (o19.2.1, o19.2.2)) ?_ ((ih_lex_Tokens_S1_1 (o19.2.1, o19.2.2) _ h)))))
          exact Le.tow 1 1 rfl (.cons rfl (.refl _) (.cons rfl (.refl _) (.nil))) (.refl _) rfl
theorem lex_Tokens_S1_0_ok : ∀ (p0 : (List UInt8)) (w0 : Int × (List api_Token)) (o1 : ((List api_Token) × Int × Int)), lex_Tokens_S1_0 p0 w0 = some o1 → TG (0, 0) Tryd.prog 112 lex_Tokens_S1_c (behind lex_Tokens_S1_c 0) (JP1 (0, 0) 112 o1 .ret (lex_Tokens_S1_x0 p0)) (lex_Tokens_S1_0_st p0 w0) := fun p0 w0 o1 h => (lex_Tokens_S1_0_grp p0).1 w0 o1 h
noncomputable def lex_Tokens (p0 : (List UInt8)) : Option ((List api_Token) × Int × Int) :=
  ( if (decide ((p0.length : Int) > 65536)) then
      some ([], 0, 6)
    else
      lex_Tokens_S1_0 p0 (0, []) : Option (((List api_Token) × Int × Int))) >>= fun o1 =>
  some (o1.1, o1.2.1, o1.2.2)
set_option maxRecDepth 100000 in
set_option maxHeartbeats 4000000 in
theorem lex_Tokens_ok : ∀ (p0 : (List UInt8)) (o : (List api_Token) × Int × Int), lex_Tokens p0 = some o → PCall Tryd.prog 26 [sV p0] (t_lex_Tokens o) := by
  intro p0 o h
  unfold lex_Tokens at h
  refine PCall.ofB mixed tbOk lex_Tokens_lv Tryd.func26 rfl (by kernel_rfl) (Nat.le_of_ble_eq_true rfl) ?_
  refine st_bind h (fun o1 ho hk => ?_)
  refine Exists.intro (JP1 _ _ o1 .ret (lex_Tokens_S1_x0 p0)) (And.intro (TG.scope ?_) (join1 ?_))
  · have h := ho
    refine TG.seqb mixed tbOk (lv := lex_Tokens_lv) ?_
    refine vrfl ?_
    refine st_test h (fun hb h => ?_) (fun hb h => ?_)
    · refine JP1.a h ?_
      exact Le.tow 0 0 rfl (.cons rfl (.p (.not)) (.cons rfl (.refl _) (.cons rfl (.refl _) (.nil)))) (.refl _) rfl
    · refine TG.seqb mixed tbOk (lv := lex_Tokens_lv) ?_
      refine TG.seqb mixed tbOk (lv := lex_Tokens_lv) ?_
      refine TG.label (TG.le (τ := lex_Tokens_S1_0_st p0 (0, [])) ?_ ((lex_Tokens_S1_0_ok p0 (0, []) _ h)))
      exact (Le.ownH 0 2 42 5 rfl rfl sizeNil).trans (Le.tow 1 1 rfl (.cons rfl (.refl _) (.cons rfl (.refl _) (.nil))) (.refl _) rfl)
  · have h := hk
    refine st_ret (t := t_lex_Tokens) h ?_
    exact .refl _
noncomputable def nunciolaw18_awake : Option (Bool) :=
  lex_Tokens [97, 123, 123, 32, 98, 32, 46, 32, 99, 32, 125, 125] >>= fun x1 =>
  lex_Tokens [123, 123, 32, 63, 32, 125, 125] >>= fun x2 =>
  lex_Tokens [123, 123, 32, 45, 53, 32, 34, 120, 92, 110, 34, 32, 125, 125] >>= fun x3 =>
  ( if (x1.2.2 == 0) then
      if (x1.2.1 == 0) then
        if ((x1.1.length : Int) == 6) then
          idx x1.1 0 >>= fun x5 =>
          if (x5.Text == [97]) then
            idx x1.1 3 >>= fun x6 =>
            if (x6.Kind == 7) then
              if (x2.2.2 == 7) then
                if (x2.2.1 == 3) then
                  if (x3.2.2 == 0) then
                    if ((x3.1.length : Int) == 4) then
                      idx x3.1 1 >>= fun x7 =>
                      if (x7.N == (-5)) then
                        idx x3.1 2 >>= fun x8 =>
                        some (x8.Text == [120, 10])
                      else
                        some false
                    else
                      some false
                  else
                    some false
                else
                  some false
              else
                some false
            else
              some false
          else
            some false
        else
          some false
      else
        some false
    else
      some false : Option (Bool)) >>= fun o4 =>
  some o4
set_option maxRecDepth 100000 in
set_option maxHeartbeats 4000000 in
theorem nunciolaw18_awake_ok : ∀ (o : Bool), nunciolaw18_awake  = some o → PCall Tryd.prog 29 [] (t_nunciolaw18_awake o) := by
  intro o h
  unfold nunciolaw18_awake at h
  refine PCall.ofB mixed tbOk nunciolaw18_awake_lv Tryd.func29 rfl (by kernel_rfl) (Nat.le_of_ble_eq_true rfl) ?_
  refine st_call [sV [97, 123, 123, 32, 98, 32, 46, 32, 99, 32, 125, 125]] t_lex_Tokens h (fun x1 hy => (lex_Tokens_ok [97, 123, 123, 32, 98, 32, 46, 32, 99, 32, 125, 125] x1 hy)) (fun x1 hy h => ?_)
  refine st_call [sV [123, 123, 32, 63, 32, 125, 125]] t_lex_Tokens h (fun x2 hy => (lex_Tokens_ok [123, 123, 32, 63, 32, 125, 125] x2 hy)) (fun x2 hy h => ?_)
  refine st_call [sV [123, 123, 32, 45, 53, 32, 34, 120, 92, 110, 34, 32, 125, 125]] t_lex_Tokens h (fun x3 hy => (lex_Tokens_ok [123, 123, 32, 45, 53, 32, 34, 120, 92, 110, 34, 32, 125, 125] x3 hy)) (fun x3 hy h => ?_)
  refine st_bind h (fun o4 ho hk => ?_)
  refine Exists.intro (JP1 _ _ o4 .normal (nunciolaw18_awake_J0_0 )) (And.intro ?_ (join1 ?_))
  · have h := ho
    refine st_test h (fun hb h => ?_) (fun hb h => ?_)
    · refine st_test h (fun hb h => ?_) (fun hb h => ?_)
      · refine view (lenMap _ _) rfl ?_
        refine st_test h (fun hb h => ?_) (fun hb h => ?_)
        · refine st_idx (l := x1.1) (c := c_api_Token) (c' := c_api_Token) h (fun _ => rfl) (fun _ => rfl) (by decide) (fun x5 hi h => ?_)
          refine st_test h (fun hb h => ?_) (fun hb h => ?_)
          · refine st_idx (l := x1.1) (c := c_api_Token) (c' := c_api_Token) h (fun _ => rfl) (fun _ => rfl) (by decide) (fun x6 hi h => ?_)
            refine st_test h (fun hb h => ?_) (fun hb h => ?_)
            · refine st_test h (fun hb h => ?_) (fun hb h => ?_)
              · refine st_test h (fun hb h => ?_) (fun hb h => ?_)
                · refine st_test h (fun hb h => ?_) (fun hb h => ?_)
                  · refine view (lenMap _ _) rfl ?_
                    refine st_test h (fun hb h => ?_) (fun hb h => ?_)
                    · refine st_idx (l := x3.1) (c := c_api_Token) (c' := c_api_Token) h (fun _ => rfl) (fun _ => rfl) (by decide) (fun x7 hi h => ?_)
                      refine st_test h (fun hb h => ?_) (fun hb h => ?_)
                      · refine st_idx (l := x3.1) (c := c_api_Token) (c' := c_api_Token) h (fun _ => rfl) (fun _ => rfl) (by decide) (fun x8 hi h => ?_)
                        refine JP1.a h ?_
                        exact Le.tow 0 0 rfl (.cons rfl (.refl _) (.nil)) (.refl _) rfl
                      · refine JP1.a h ?_
                        exact Le.tow 0 0 rfl (.cons rfl (.refl _) (.nil)) (.refl _) rfl
                    · refine bF ?_
                      refine JP1.a h ?_
                      exact Le.tow 0 0 rfl (.cons rfl (.refl _) (.nil)) (.refl _) rfl
                  · refine bF ?_
                    refine bF ?_
                    refine JP1.a h ?_
                    exact Le.tow 0 0 rfl (.cons rfl (.refl _) (.nil)) (.refl _) rfl
                · refine bF ?_
                  refine bF ?_
                  refine bF ?_
                  refine JP1.a h ?_
                  exact Le.tow 0 0 rfl (.cons rfl (.refl _) (.nil)) (.refl _) rfl
              · refine bF ?_
                refine bF ?_
                refine bF ?_
                refine bF ?_
                refine JP1.a h ?_
                exact Le.tow 0 0 rfl (.cons rfl (.refl _) (.nil)) (.refl _) rfl
            · refine bF ?_
              refine bF ?_
              refine bF ?_
              refine bF ?_
              refine bF ?_
              refine JP1.a h ?_
              exact Le.tow 0 0 rfl (.cons rfl (.refl _) (.nil)) (.refl _) rfl
          · refine bF ?_
            refine bF ?_
            refine bF ?_
            refine bF ?_
            refine bF ?_
            refine bF ?_
            refine JP1.a h ?_
            exact Le.tow 0 0 rfl (.cons rfl (.refl _) (.nil)) (.refl _) rfl
        · refine bF ?_
          refine bF ?_
          refine bF ?_
          refine bF ?_
          refine bF ?_
          refine bF ?_
          refine bF ?_
          refine JP1.a h ?_
          exact Le.tow 0 0 rfl (.cons rfl (.refl _) (.nil)) (.refl _) rfl
      · refine bF ?_
        refine bF ?_
        refine bF ?_
        refine bF ?_
        refine bF ?_
        refine bF ?_
        refine bF ?_
        refine bF ?_
        refine JP1.a h ?_
        exact Le.tow 0 0 rfl (.cons rfl (.refl _) (.nil)) (.refl _) rfl
    · refine bF ?_
      refine bF ?_
      refine bF ?_
      refine bF ?_
      refine bF ?_
      refine bF ?_
      refine bF ?_
      refine bF ?_
      refine bF ?_
      refine JP1.a h ?_
      exact Le.tow 0 0 rfl (.cons rfl (.refl _) (.nil)) (.refl _) rfl
  · have h := hk
    refine st_ret (t := t_nunciolaw18_awake) h ?_
    exact .refl _
noncomputable def nunciolaw18_few (p0 : (List UInt8)) : Option ((List UInt8)) :=
  cutL p0 0 (if 300 < (p0.length : Int) then 300 else (p0.length : Int)) >>= fun x1 =>
  some x1
set_option maxRecDepth 100000 in
set_option maxHeartbeats 4000000 in
theorem nunciolaw18_few_ok : ∀ (p0 : (List UInt8)) (o : (List UInt8)), nunciolaw18_few p0 = some o → PCall Tryd.prog 25 [sV p0] (t_nunciolaw18_few o) := by
  intro p0 o h
  unfold nunciolaw18_few at h
  refine PCall.ofB mixed tbOk nunciolaw18_few_lv Tryd.func25 rfl (by kernel_rfl) (Nat.le_of_ble_eq_true rfl) ?_
  refine vrfl ?_
  refine st_cuts none (some (if 300 < (p0.length : Int) then 300 else (p0.length : Int))) h (fun x1 hi h => ?_)
  refine st_ret (t := t_nunciolaw18_few) h ?_
  exact .refl _
noncomputable def nunciolaw18_LexQuotes (p0 : (List UInt8)) : Option (Bool) :=
  nunciolaw18_few p0 >>= fun x1 =>
  lex_Quote x1 >>= fun x2 =>
  R18_Quote x1 >>= fun x3 =>
  ( if (!(x2.1 == x3.1)) then
      some true
    else
      if (x2.2 != x3.2) then
        some true
      else
        lex_Word x1 >>= fun x5 =>
        R18_Word x1 >>= fun x6 =>
        some (x5 != x6) : Option (Bool)) >>= fun o4 =>
  if o4 then
    some false
  else
    need ([123, 123].length + x2.1.length ≤ 9223372036854775807) >>= fun _ =>
    need (([123, 123] ++ x2.1).length + [125, 125].length ≤ 9223372036854775807) >>= fun _ =>
    lex_Tokens (([123, 123] ++ x2.1) ++ [125, 125]) >>= fun x7 =>
    if (!x2.2) then
      ( if (x2.1 == []) then
          nunciolaw18_awake >>= fun x9 =>
          some x9
        else
          some false : Option (Bool)) >>= fun o8 =>
      some o8
    else
      ( if (x7.2.2 == 0) then
          R18_Same x7.1 ([(api_Token.mk 2 [] 0 0 0), (api_Token.mk 5 x1 0 0 0), (api_Token.mk 3 [] 0 0 0)]) >>= fun x11 =>
          if x11 then
            nunciolaw18_awake >>= fun x12 =>
            some x12
          else
            some false
        else
          some false : Option (Bool)) >>= fun o10 =>
      some o10
set_option maxRecDepth 100000 in
set_option maxHeartbeats 4000000 in
theorem nunciolaw18_LexQuotes_ok : ∀ (p0 : (List UInt8)) (o : Bool), nunciolaw18_LexQuotes p0 = some o → PCall Tryd.prog 10 [sV p0] (t_nunciolaw18_LexQuotes o) := by
  intro p0 o h
  unfold nunciolaw18_LexQuotes at h
  refine PCall.ofB mixed tbOk nunciolaw18_LexQuotes_lv Tryd.func10 rfl (by kernel_rfl) (Nat.le_of_ble_eq_true rfl) ?_
  refine st_call [sV p0] t_nunciolaw18_few h (fun x1 hy => (nunciolaw18_few_ok p0 x1 hy)) (fun x1 hy h => ?_)
  refine st_call [sV x1] t_lex_Quote h (fun x2 hy => (lex_Quote_ok x1 x2 hy)) (fun x2 hy h => ?_)
  refine st_call [sV x1] t_R18_Quote h (fun x3 hy => (R18_Quote_ok x1 x3 hy)) (fun x3 hy h => ?_)
  refine st_bind h (fun o4 ho hk => ?_)
  refine Exists.intro (JP1 _ _ o4 .normal (nunciolaw18_LexQuotes_J0_0 x1 x2)) (And.intro ?_ (join1 ?_))
  · have h := ho
    refine st_test h (fun hb h => ?_) (fun hb h => ?_)
    · refine bT ?_
      refine JP1.a h ?_
      exact Le.tow 0 0 rfl (.cons rfl (.refl _) (.cons rfl (.refl _) (.cons rfl (.refl _) (.cons rfl (.refl _) (.nil))))) (.refl _) rfl
    · refine st_test h (fun hb h => ?_) (fun hb h => ?_)
      · refine JP1.a h ?_
        exact Le.tow 0 0 rfl (.cons rfl (.refl _) (.cons rfl (.refl _) (.cons rfl (.refl _) (.cons rfl (.refl _) (.nil))))) (.refl _) rfl
      · refine st_call [sV x1] t_lex_Word h (fun x5 hy => (lex_Word_ok x1 x5 hy)) (fun x5 hy h => ?_)
        refine st_call [sV x1] t_R18_Word h (fun x6 hy => (R18_Word_ok x1 x6 hy)) (fun x6 hy h => ?_)
        refine JP1.a h ?_
        exact Le.tow 0 0 rfl (.cons rfl (.refl _) (.cons rfl (.refl _) (.cons rfl (.refl _) (.cons rfl (.refl _) (.nil))))) (.refl _) rfl
  · have h := hk
    refine st_test h (fun hb h => ?_) (fun hb h => ?_)
    · refine st_ret (t := t_nunciolaw18_LexQuotes) h ?_
      exact .refl _
    · refine st_need h (fun h => ?_)
      refine st_need h (fun h => ?_)
      refine st_call [sV (([123, 123] ++ x2.1) ++ [125, 125])] t_lex_Tokens h (fun x7 hy => (lex_Tokens_ok (([123, 123] ++ x2.1) ++ [125, 125]) x7 hy)) (fun x7 hy h => ?_)
      refine st_test h (fun hb h => ?_) (fun hb h => ?_)
      · refine st_bind h (fun o8 ho hk => ?_)
        refine Exists.intro (JP1 _ _ o8 .normal (nunciolaw18_LexQuotes_J1_0 )) (And.intro ?_ (join1 ?_))
        · have h := ho
          refine st_test h (fun hb h => ?_) (fun hb h => ?_)
          · refine st_call [] t_nunciolaw18_awake h (fun x9 hy => (nunciolaw18_awake_ok x9 hy)) (fun x9 hy h => ?_)
            refine JP1.a h ?_
            exact Le.tow 0 0 rfl (.cons rfl (.refl _) (.nil)) (.refl _) rfl
          · refine JP1.a h ?_
            exact Le.tow 0 0 rfl (.cons rfl (.refl _) (.nil)) (.refl _) rfl
        · have h := hk
          refine st_ret (t := t_nunciolaw18_LexQuotes) h ?_
          exact .refl _
      · refine st_bind h (fun o10 ho hk => ?_)
        refine Exists.intro (JP1 _ _ o10 .normal (nunciolaw18_LexQuotes_J2_0 )) (And.intro ?_ (join1 ?_))
        · have h := ho
          refine st_test h (fun hb h => ?_) (fun hb h => ?_)
          · refine st_call [.sl false (x7.1.map c_api_Token), .sl true [[iV 2, sV [], iV 0, iV 0, iV 0], [iV 5, sV x1, iV 0, iV 0, iV 0], [iV 3, sV [], iV 0, iV 0, iV 0]]] t_R18_Same h (fun x11 hy => (R18_Same_ok x7.1 ([(api_Token.mk 2 [] 0 0 0), (api_Token.mk 5 x1 0 0 0), (api_Token.mk 3 [] 0 0 0)]) x11 hy).weak (.cons (.refl _) (.cons (.not) (.nil)))) (fun x11 hy h => ?_)
            refine st_test h (fun hb h => ?_) (fun hb h => ?_)
            · refine st_call [] t_nunciolaw18_awake h (fun x12 hy => (nunciolaw18_awake_ok x12 hy)) (fun x12 hy h => ?_)
              refine JP1.a h ?_
              exact Le.tow 0 0 rfl (.cons rfl (.refl _) (.nil)) (.refl _) rfl
            · refine JP1.a h ?_
              exact Le.tow 0 0 rfl (.cons rfl (.refl _) (.nil)) (.refl _) rfl
          · refine bF ?_
            refine JP1.a h ?_
            exact Le.tow 0 0 rfl (.cons rfl (.refl _) (.nil)) (.refl _) rfl
        · have h := hk
          refine st_ret (t := t_nunciolaw18_LexQuotes) h ?_
          exact .refl _
end Go.Proofs.YtebkhehjfkmdiaaDoor
end

section
namespace Go.Proofs.YtebkhehjfkmdiaaDoor
open Go.RowKit

def contB (c : UInt8) : Bool := decide (128 ≤ c.toNat) && decide (c.toNat < 192)
def runeB (n : Nat) : Bool := decide (n ≤ 1114111) && !(decide (55296 ≤ n) && decide (n ≤ 57343))
/-- The rune at the head, and how many bytes it has. -/
def nextC (c : UInt8) (r : List UInt8) : Nat × Nat :=
    if c.toNat < 128 then (c.toNat, 1)
    else if 192 ≤ c.toNat ∧ c.toNat < 224 then
      match r with
      | c1 :: _ => if contB c1 = true ∧ 128 ≤ (c.toNat - 192) * 64 + (c1.toNat - 128) then ((c.toNat - 192) * 64 + (c1.toNat - 128), 2) else (65533, 1)
      | _ => (65533, 1)
    else if 224 ≤ c.toNat ∧ c.toNat < 240 then
      match r with
      | c1 :: c2 :: _ => if contB c1 = true ∧ contB c2 = true ∧ 2048 ≤ ((c.toNat - 224) * 64 + (c1.toNat - 128)) * 64 + (c2.toNat - 128) ∧ runeB (((c.toNat - 224) * 64 + (c1.toNat - 128)) * 64 + (c2.toNat - 128)) = true then (((c.toNat - 224) * 64 + (c1.toNat - 128)) * 64 + (c2.toNat - 128), 3) else (65533, 1)
      | _ => (65533, 1)
    else if 240 ≤ c.toNat ∧ c.toNat < 248 then
      match r with
      | c1 :: c2 :: c3 :: _ => if contB c1 = true ∧ contB c2 = true ∧ contB c3 = true ∧ 65536 ≤ (((c.toNat - 240) * 64 + (c1.toNat - 128)) * 64 + (c2.toNat - 128)) * 64 + (c3.toNat - 128) ∧ runeB ((((c.toNat - 240) * 64 + (c1.toNat - 128)) * 64 + (c2.toNat - 128)) * 64 + (c3.toNat - 128)) = true then ((((c.toNat - 240) * 64 + (c1.toNat - 128)) * 64 + (c2.toNat - 128)) * 64 + (c3.toNat - 128), 4) else (65533, 1)
      | _ => (65533, 1)
    else (65533, 1)
def nextP : List UInt8 → Nat × Nat
  | [] => (0, 0)
  | c :: r => nextC c r
theorem i32_in {n : Int} (h1 : -2147483648 ≤ n) (h2 : n ≤ 2147483647) : IntKind.i32.wrap n = n := by
  simp [IntKind.wrap, IntKind.bits, IntKind.signed]
  omega
theorem u8_in {n : Int} (h1 : 0 ≤ n) (h2 : n ≤ 255) : IntKind.u8.wrap n = n := by
  simp [IntKind.wrap, IntKind.bits, IntKind.signed]
  omega
theorem and63 : ∀ c : Fin 256, bits .and .u8 ((c.1 : Nat) : Int) 63 = ((c.1 % 64 : Nat) : Int) := by decide +kernel
theorem and192 : ∀ c : Fin 256, (bits .and .u8 ((c.1 : Nat) : Int) 192 != 128) = !(decide (128 ≤ c.1) && decide (c.1 < 192)) := by decide +kernel
theorem and31 : ∀ c : Fin 256, bits .and .u8 ((c.1 : Nat) : Int) 31 = ((c.1 % 32 : Nat) : Int) := by decide +kernel
theorem and15 : ∀ c : Fin 256, bits .and .u8 ((c.1 : Nat) : Int) 15 = ((c.1 % 16 : Nat) : Int) := by decide +kernel
theorem and7 : ∀ c : Fin 256, bits .and .u8 ((c.1 : Nat) : Int) 7 = ((c.1 % 8 : Nat) : Int) := by decide +kernel
theorem or64 (a b : Nat) (ha : a < 1000000) (hb : b < 64) : bits .or .i32 (IntKind.i32.wrap ((a : Int) * 2 ^ (min (6 : Int).toNat (IntKind.i32.bits)))) (IntKind.i32.wrap (b : Int)) = ((a * 64 + b : Nat) : Int) := by
  have e1 : IntKind.i32.wrap ((a : Int) * 2 ^ (min (6 : Int).toNat (IntKind.i32.bits))) = ((a * 64 : Nat) : Int) := by
    have : (min (6 : Int).toNat (IntKind.i32.bits)) = 6 := rfl
    rw [this, i32_in (by omega) (by omega)]; omega
  rw [e1, i32_in (by omega) (by omega)]
  have e2 : (2 : Nat) ^ 6 * a + b = 2 ^ 6 * a ||| b := Nat.two_pow_add_eq_or_of_lt (by omega) a
  have e3 : a * 64 ||| b = a * 64 + b := by
    have : (2 : Nat) ^ 6 * a = a * 64 := by omega
    rw [this] at e2; omega
  show IntKind.i32.wrap ((BitVec.ofInt 32 ((a * 64 : Nat) : Int) ||| BitVec.ofInt 32 (b : Int)).toNat : Int) = _
  rw [BitVec.toNat_or, BitVec.ofInt_natCast, BitVec.ofInt_natCast, BitVec.toNat_ofNat, BitVec.toNat_ofNat, Nat.mod_eq_of_lt (by omega), Nat.mod_eq_of_lt (by omega), e3, i32_in (by omega) (by omega)]
theorem b63 (c : UInt8) : bits .and .u8 (c.toNat : Int) 63 = ((c.toNat % 64 : Nat) : Int) := and63 ⟨c.toNat, c.toNat_lt⟩
theorem b192 (c : UInt8) : (bits .and .u8 (c.toNat : Int) 192 != 128) = !contB c := and192 ⟨c.toNat, c.toNat_lt⟩
theorem b31 (c : UInt8) : bits .and .u8 (c.toNat : Int) 31 = ((c.toNat % 32 : Nat) : Int) := and31 ⟨c.toNat, c.toNat_lt⟩
theorem b15 (c : UInt8) : bits .and .u8 (c.toNat : Int) 15 = ((c.toNat % 16 : Nat) : Int) := and15 ⟨c.toNat, c.toNat_lt⟩
theorem b7 (c : UInt8) : bits .and .u8 (c.toNat : Int) 7 = ((c.toNat % 8 : Nat) : Int) := and7 ⟨c.toNat, c.toNat_lt⟩
theorem cont_mod {c : UInt8} (h : contB c = true) : c.toNat % 64 = c.toNat - 128 := by
  unfold contB at h
  simp at h
  omega
/-- What follows: so many bytes. -/
def tailP : Nat → List UInt8 → Nat → Option Nat
  | 0, _, v => some v
  | _ + 1, [], _ => none
  | m + 1, c :: r, v => if contB c = true then tailP m r (v * 64 + (c.toNat - 128)) else none
set_option maxRecDepth 20000 in
theorem tTailL (l : List UInt8) (m : Nat) (hm : m ≤ l.length) (hm3 : m ≤ 3) : ∀ (d k v : Nat), k + d = m → ((k = 0 → v < 64) ∧ (k ≤ 1 → v < 4096) ∧ (k ≤ 2 → v < 262144)) →
    utf_tail_L1 l m v k = some (match tailP d (l.drop k) v with | some n => .inl (n : Int) | none => .inr ()) := by
  intro d
  induction d with
  | zero =>
    intro k v hk _
    rw [utf_tail_L1, ltI, decide_eq_false (by omega : ¬ k < m)]
    rfl
  | succ d ih =>
    intro k v hk hv
    have hkl : k < l.length := by omega
    have : decide ((k : Int) < (m : Int)) = true := decide_eq_true (by omega)
    rw [utf_tail_L1]
    simp only [this, if_true, idx_nat, getE hkl, bind_some', b192, b63]
    rw [or64 v _ (by omega) (Nat.mod_lt _ (by omega)), wr_succ (by omega), dropE hkl]
    unfold tailP
    cases hc : contB l[k] with
    | false => rfl
    | true =>
      rw [cont_mod hc]
      have hlt : l[k].toNat - 128 < 64 := by unfold contB at hc; simp at hc; omega
      have hv2 : (k + 1 = 0 → v * 64 + (l[k].toNat - 128) < 64) ∧ (k + 1 ≤ 1 → v * 64 + (l[k].toNat - 128) < 4096) ∧ (k + 1 ≤ 2 → v * 64 + (l[k].toNat - 128) < 262144) := by omega
      simp only [Bool.not_true, Bool.false_eq_true, if_false, if_true]
      exact ih (k + 1) _ (by omega) hv2
theorem tTail (l : List UInt8) (m v : Nat) (hm3 : m ≤ 3) (hv : v < 64) : utf_tail l v m = some (match (if l.length < m then none else tailP m l v) with | some n => ((n : Int), true) | none => (0, false)) := by
  rw [utf_tail, ltI]
  by_cases h : l.length < m
  · rw [decide_eq_true h, if_pos h]; rfl
  · rw [decide_eq_false h, if_neg h]
    have := tTailL l m (by omega) hm3 m 0 v (by omega) (by omega)
    rw [List.drop_zero] at this
    rw [show (0 : Int) = ((0 : Nat) : Int) from rfl, this]
    cases tailP m l v <;> rfl
theorem tIsR (n : Nat) : utf_is (n : Int) = some (runeB n) := by
  have a : decide ((n : Int) ≥ 0) = true := decide_eq_true (by omega)
  have b : decide ((n : Int) ≤ 1114111) = decide (n ≤ 1114111) := by
    by_cases h : n ≤ 1114111
    · rw [decide_eq_true h, decide_eq_true (by omega)]
    · rw [decide_eq_false h, decide_eq_false (by omega)]
  rw [utf_is, a, b, runeB]
  by_cases h1 : n < 55296
  · rw [decide_eq_true (show (n : Int) < 55296 by omega), decide_eq_true (show n ≤ 1114111 by omega), decide_eq_false (show ¬ 55296 ≤ n by omega)]; rfl
  · rw [decide_eq_false (show ¬ (n : Int) < 55296 by omega), decide_eq_true (show 55296 ≤ n by omega)]
    by_cases h2 : n ≤ 57343
    · rw [decide_eq_false (show ¬ (n : Int) > 57343 by omega), decide_eq_true h2, decide_eq_true (show n ≤ 1114111 by omega)]; rfl
    · rw [decide_eq_true (show (n : Int) > 57343 by omega), decide_eq_false h2]
      cases decide (n ≤ 1114111) <;> rfl
theorem rIsR (n : Nat) : R02_Rune (n : Int) = some (runeB n) := by
  have a : decide ((n : Int) ≥ 0) = true := decide_eq_true (by omega)
  have b : decide ((n : Int) ≤ 1114111) = decide (n ≤ 1114111) := by
    by_cases h : n ≤ 1114111
    · rw [decide_eq_true h, decide_eq_true (by omega)]
    · rw [decide_eq_false h, decide_eq_false (by omega)]
  have c : decide ((n : Int) ≥ 55296) = decide (55296 ≤ n) := by
    by_cases h : 55296 ≤ n
    · rw [decide_eq_true h, decide_eq_true (by omega)]
    · rw [decide_eq_false h, decide_eq_false (by omega)]
  have d : decide ((n : Int) ≤ 57343) = decide (n ≤ 57343) := by
    by_cases h : n ≤ 57343
    · rw [decide_eq_true h, decide_eq_true (by omega)]
    · rw [decide_eq_false h, decide_eq_false (by omega)]
  rw [R02_Rune, a, b, c, d, runeB]
  cases decide (n ≤ 1114111) <;> cases decide (55296 ≤ n) <;> cases decide (n ≤ 57343) <;> rfl
theorem ltC (c : UInt8) (k : Nat) : decide ((c.toNat : Int) < (k : Int)) = decide (c.toNat < k) := ltI _ _
theorem geC (c : UInt8) (k : Nat) : decide ((c.toNat : Int) ≥ (k : Int)) = decide (k ≤ c.toNat) := by
  by_cases h : k ≤ c.toNat
  · rw [decide_eq_true h, decide_eq_true (by omega)]
  · rw [decide_eq_false h, decide_eq_false (by omega)]
/-- What Next makes of a tail. -/
def endP (o : Option Nat) (least m : Nat) : Nat × Nat := match o with
  | some n => if least ≤ n ∧ runeB n = true then (n, m + 1) else (65533, 1)
  | none => (65533, 1)
set_option maxRecDepth 20000 in
theorem tNext (s : List UInt8) (k : Nat) (hk : k < s.length) (hs : s.length < 9223372036854775807) : utf_Next s k = some (((nextP (s.drop k)).1 : Int), ((nextP (s.drop k)).2 : Int)) := by
  have d1 : decide ((k : Int) < 0) = false := decide_eq_false (by omega)
  have d2 : decide ((k : Int) ≥ (s.length : Int)) = false := decide_eq_false (by omega)
  have hc := s[k].toNat_lt
  have hr : cutL s (wr ((k : Int) + 1)) (s.length : Int) = some (s.drop (k + 1)) := by
    rw [wr_succ (by omega), cutL_ok (by omega) (by omega) (by omega)]
    simp
  rw [utf_Next, d1, d2, hr, dropE hk]
  have l128 := ltC s[k] 128
  have g192 := geC s[k] 192
  have l224 := ltC s[k] 224
  have g224 := geC s[k] 224
  have l240 := ltC s[k] 240
  have g240 := geC s[k] 240
  have l248 := ltC s[k] 248
  have b1 : ∀ a b : Bool, (if a = true then some b else some false : Option Bool) = some (a && b) := fun a b => by cases a <;> rfl
  simp only [Bool.false_eq_true, if_false, bind_some', idx_nat, getE hk]
  rw [show (128 : Int) = ((128 : Nat) : Int) from rfl, show (192 : Int) = ((192 : Nat) : Int) from rfl, show (224 : Int) = ((224 : Nat) : Int) from rfl, show (240 : Int) = ((240 : Nat) : Int) from rfl, show (248 : Int) = ((248 : Nat) : Int) from rfl, l128, g192, l224, g224, l240, g240, l248]
  simp only [b1, bind_some']
  rw [nextP]
  unfold nextC
  have fin : ∀ (v least m : Nat), m ≤ 3 → v < 64 → (utf_tail (s.drop (k + 1)) (v : Int) (m : Int) >>= fun x10 =>
      (if (!x10.2) = true then some true else if decide (x10.1 < (least : Int)) = true then some true else utf_is x10.1 >>= fun x12 => some (!x12) : Option Bool) >>= fun o11 =>
      if o11 = true then some ((65533 : Int), (1 : Int)) else some (x10.1, wr ((m : Int) + 1))) =
      some (((endP (if (s.drop (k + 1)).length < m then none else tailP m (s.drop (k + 1)) v) least m).1 : Int), ((endP (if (s.drop (k + 1)).length < m then none else tailP m (s.drop (k + 1)) v) least m).2 : Int)) := fun v least m hm hv => by
    rw [tTail _ m v hm hv]
    cases (if (s.drop (k + 1)).length < m then none else tailP m (s.drop (k + 1)) v) with
    | none => rfl
    | some n =>
      simp only [bind_some', Bool.not_true, Bool.false_eq_true, if_false, ltI, tIsR, endP]
      by_cases h1 : n < least
      · rw [decide_eq_true h1, if_neg (fun h => absurd h.1 (by omega) : ¬ (least ≤ n ∧ runeB n = true))]; rfl
      · rw [decide_eq_false h1]
        cases hrn : runeB n with
        | true => rw [if_pos (⟨by omega, rfl⟩ : least ≤ n ∧ true = true), wr_succ (by omega)]; rfl
        | false => rw [if_neg (fun h => by cases h.2 : ¬ (least ≤ n ∧ false = true))]; rfl
  by_cases h1 : s[k].toNat < 128
  · rw [decide_eq_true h1, if_pos h1]
    simp only [if_true, bind_some']
    rw [i32_in (by omega) (by omega)]; rfl
  rw [decide_eq_false h1, if_neg h1]
  simp only [Bool.false_eq_true, if_false]
  have cc : ∀ c : UInt8, contB c = true → c.toNat - 128 < 64 := fun c h => by unfold contB at h; simp at h; omega
  by_cases h2 : 192 ≤ s[k].toNat ∧ s[k].toNat < 224
  · rw [decide_eq_true h2.1, decide_eq_true h2.2, if_pos h2, b31]
    simp only [Bool.and_true, if_true, bind_some']
    rw [i32_in (by omega) (by omega)]
    have f := fin (s[k].toNat % 32) 128 1 (by omega) (by omega)
    rw [show ((1 : Nat) : Int) = 1 from rfl] at f
    rw [f]
    have e : s[k].toNat % 32 = s[k].toNat - 192 := by omega
    rw [e]
    cases s.drop (k + 1) with
    | nil => rfl
    | cons c1 r1 =>
      simp only [List.length_cons, if_neg (by omega : ¬ r1.length + 1 < 1), tailP]
      cases h : contB c1 with
      | false => rfl
      | true =>
        have := cc c1 h
        have hr : runeB ((s[k].toNat - 192) * 64 + (c1.toNat - 128)) = true := by unfold runeB; rw [decide_eq_true (by omega), decide_eq_false (by omega)]; rfl
        simp only [if_true, endP, hr, and_true, true_and]
  rw [if_neg h2]
  have d2 : (decide (192 ≤ s[k].toNat) && decide (s[k].toNat < 224)) = false := by
    rw [Bool.and_eq_false_iff]
    by_cases h : 192 ≤ s[k].toNat
    · exact .inr (decide_eq_false (by omega))
    · exact .inl (decide_eq_false h)
  rw [d2]
  simp only [Bool.false_eq_true, if_false]
  by_cases h3 : 224 ≤ s[k].toNat ∧ s[k].toNat < 240
  · rw [decide_eq_true h3.1, decide_eq_true h3.2, if_pos h3, b15]
    simp only [Bool.and_true, if_true, bind_some']
    rw [i32_in (by omega) (by omega)]
    have f := fin (s[k].toNat % 16) 2048 2 (by omega) (by omega)
    rw [show ((2 : Nat) : Int) = 2 from rfl, show ((2048 : Nat) : Int) = 2048 from rfl] at f
    rw [f]
    have e : s[k].toNat % 16 = s[k].toNat - 224 := by omega
    rw [e]
    match s.drop (k + 1) with
    | [] => rfl
    | [c1] => rfl
    | c1 :: c2 :: r1 =>
      simp only [List.length_cons, if_neg (by omega : ¬ r1.length + 1 + 1 < 2), tailP]
      cases h : contB c1 with
      | false => rfl
      | true =>
        cases h' : contB c2 with
        | false => simp [endP]
        | true => simp only [if_true, endP, true_and]
  rw [if_neg h3]
  have d3 : (decide (224 ≤ s[k].toNat) && decide (s[k].toNat < 240)) = false := by
    rw [Bool.and_eq_false_iff]
    by_cases h : 224 ≤ s[k].toNat
    · exact .inr (decide_eq_false (by omega))
    · exact .inl (decide_eq_false h)
  rw [d3]
  simp only [Bool.false_eq_true, if_false]
  by_cases h4 : 240 ≤ s[k].toNat ∧ s[k].toNat < 248
  · rw [decide_eq_true h4.1, decide_eq_true h4.2, if_pos h4, b7]
    simp only [Bool.and_true, if_true, bind_some']
    rw [i32_in (by omega) (by omega)]
    have f := fin (s[k].toNat % 8) 65536 3 (by omega) (by omega)
    rw [show ((3 : Nat) : Int) = 3 from rfl, show ((65536 : Nat) : Int) = 65536 from rfl] at f
    rw [f]
    have e : s[k].toNat % 8 = s[k].toNat - 240 := by omega
    rw [e]
    match s.drop (k + 1) with
    | [] => rfl
    | [c1] => rfl
    | [c1, c2] => rfl
    | c1 :: c2 :: c3 :: r1 =>
      simp only [List.length_cons, if_neg (by omega : ¬ r1.length + 1 + 1 + 1 < 3), tailP]
      cases h : contB c1 with
      | false => rfl
      | true =>
        cases h' : contB c2 with
        | false => simp [endP]
        | true =>
          cases h'' : contB c3 with
          | false => simp [endP]
          | true => simp only [if_true, endP, true_and]
  rw [if_neg h4]
  have d4 : (decide (240 ≤ s[k].toNat) && decide (s[k].toNat < 248)) = false := by
    rw [Bool.and_eq_false_iff]
    by_cases h : 240 ≤ s[k].toNat
    · exact .inr (decide_eq_false (by omega))
    · exact .inl (decide_eq_false h)
  rw [d4]
  rfl
theorem nextP_size (l : List UInt8) (h : l ≠ []) : 1 ≤ (nextP l).2 ∧ (nextP l).2 ≤ l.length := by
  cases l with
  | nil => exact absurd rfl h
  | cons c r =>
    rw [nextP]
    unfold nextC
    split
    · simp
    · split
      · split
        · split <;> simp
        · simp
      · split
        · split
          · split <;> simp
          · simp
        · split
          · split
            · split <;> simp
            · simp
          · simp
end Go.Proofs.YtebkhehjfkmdiaaDoor
end

section
namespace Go.Proofs.YtebkhehjfkmdiaaDoor
open Go.RowKit

def bytesN (n : Nat) : List Nat :=
  if n < 128 then [n] else if n < 2048 then [192 + n / 64, 128 + n % 64] else if n < 65536 then [224 + n / 4096, 128 + n / 64 % 64, 128 + n % 64] else [240 + n / 262144, 128 + n / 4096 % 64, 128 + n / 64 % 64, 128 + n % 64]
theorem bytes_eq (l : List Nat) (h : ∀ x ∈ l, x < 256) (m : List UInt8) : (l.map UInt8.ofNat == m) = decide (l = m.map UInt8.toNat) := by
  have key : l.map UInt8.ofNat = m ↔ l = m.map UInt8.toNat := by
    constructor
    · intro e
      subst e
      rw [List.map_map]
      conv => lhs; rw [← List.map_id l]
      refine List.map_congr_left fun x hx => ?_
      have := h x hx
      show x = (UInt8.ofNat x).toNat
      rw [UInt8.toNat_ofNat', Nat.mod_eq_of_lt this]
    · intro e
      subst e
      rw [List.map_map]
      conv => rhs; rw [← List.map_id m]
      exact List.map_congr_left fun x _ => by simp
  by_cases he : l.map UInt8.ofNat = m
  · rw [decide_eq_true (key.1 he), beq_iff_eq]; exact he
  · rw [decide_eq_false (fun k => he (key.2 k)), beq_eq_false_iff_ne]; exact he
theorem b2s_ok (l : List Nat) (h : ∀ x ∈ l, x < 256) : b2s (l.map fun x : Nat => (x : Int)) = some (l.map UInt8.ofNat) := by
  unfold b2s
  rw [if_pos]
  · rw [List.map_map]; rfl
  · rw [List.all_eq_true]
    intro n hn
    obtain ⟨x, hx, rfl⟩ := List.mem_map.1 hn
    have := h x hx
    simp only [decide_eq_true_eq]
    omega
theorem td (n k : Nat) : ((n : Int).tdiv (k : Int)) = ((n / k : Nat) : Int) := by rw [Int.tdiv_eq_ediv_of_nonneg (by omega)]; rfl
theorem tm (n k : Nat) : ((n : Int).tmod (k : Int)) = ((n % k : Nat) : Int) := by rw [Int.tmod_eq_emod_of_nonneg (by omega)]; rfl
theorem wrN (n : Nat) (h : n < 9000000000000) : wr (n : Int) = (n : Int) := wr_in (by omega) (by omega)
theorem u8N (n : Nat) (h : n < 256) : IntKind.u8.wrap (n : Int) = (n : Int) := u8_in (by omega) (by omega)
set_option maxRecDepth 20000 in
theorem rBytes (n : Nat) (h : runeB n = true) : R02_Bytes (n : Int) = some ((bytesN n).map UInt8.ofNat) := by
  have hn : n ≤ 1114111 := by unfold runeB at h; rw [Bool.and_eq_true] at h; exact of_decide_eq_true h.1
  have a1 : decide ((n : Int) < 128) = decide (n < 128) := ltI n 128
  have a2 : decide ((n : Int) < 2048) = decide (n < 2048) := ltI n 2048
  have a3 : decide ((n : Int) < 65536) = decide (n < 65536) := ltI n 65536
  have d64 : (n : Int).tdiv 64 = ((n / 64 : Nat) : Int) := td n 64
  have m64 : (n : Int).tmod 64 = ((n % 64 : Nat) : Int) := tm n 64
  have d4096 : (n : Int).tdiv 4096 = ((n / 4096 : Nat) : Int) := td n 4096
  have d262 : (n : Int).tdiv 262144 = ((n / 262144 : Nat) : Int) := td n 262144
  have w1 : ∀ a b : Nat, a + b < 256 → IntKind.u8.wrap (wr ((a : Int) + (b : Int))) = ((a + b : Nat) : Int) := fun a b h => by
    rw [wr_in (by omega) (by omega), u8_in (by omega) (by omega)]; rfl
  rw [R02_Bytes, rIsR, h]
  simp only [bind_some', Bool.not_true, Bool.false_eq_true, if_false, a1, a2, a3, d64, m64, d4096, d262]
  rw [wrN (n / 64) (by omega), wrN (n / 4096) (by omega), wrN (n / 262144) (by omega)]
  have t64 : (((n / 64 : Nat) : Int)).tmod 64 = ((n / 64 % 64 : Nat) : Int) := tm (n / 64) 64
  have t4096 : (((n / 4096 : Nat) : Int)).tmod 64 = ((n / 4096 % 64 : Nat) : Int) := tm (n / 4096) 64
  rw [t64, t4096]
  unfold bytesN
  by_cases h1 : n < 128
  · rw [decide_eq_true h1, if_pos h1, u8N n (by omega)]
    simp only [if_true]
    have := b2s_ok [n] (by simp; omega)
    simp only [List.map_cons, List.map_nil] at this
    rw [this]; rfl
  rw [decide_eq_false h1, if_neg h1]
  by_cases h2 : n < 2048
  · rw [decide_eq_true h2, if_pos h2]
    have e1 := w1 192 (n / 64) (by omega)
    have e2 := w1 128 (n % 64) (by omega)
    have := b2s_ok [192 + n / 64, 128 + n % 64] (by simp; omega)
    simp only [List.map_cons, List.map_nil] at this
    simp only [Bool.false_eq_true, if_false, if_true]
    rw [show (192 : Int) = ((192 : Nat) : Int) from rfl, show (128 : Int) = ((128 : Nat) : Int) from rfl, e1, e2, this]; rfl
  rw [decide_eq_false h2, if_neg h2]
  by_cases h3 : n < 65536
  · rw [decide_eq_true h3, if_pos h3]
    have e1 := w1 224 (n / 4096) (by omega)
    have e2 := w1 128 (n / 64 % 64) (by omega)
    have e3 := w1 128 (n % 64) (by omega)
    have := b2s_ok [224 + n / 4096, 128 + n / 64 % 64, 128 + n % 64] (by simp; omega)
    simp only [List.map_cons, List.map_nil] at this
    simp only [Bool.false_eq_true, if_false, if_true]
    rw [show (224 : Int) = ((224 : Nat) : Int) from rfl, show (128 : Int) = ((128 : Nat) : Int) from rfl, e1, e2, e3, this]; rfl
  rw [decide_eq_false h3, if_neg h3]
  have e0 := w1 240 (n / 262144) (by omega)
  have e1 := w1 128 (n / 4096 % 64) (by omega)
  have e2 := w1 128 (n / 64 % 64) (by omega)
  have e3 := w1 128 (n % 64) (by omega)
  have := b2s_ok [240 + n / 262144, 128 + n / 4096 % 64, 128 + n / 64 % 64, 128 + n % 64] (by simp; omega)
  simp only [List.map_cons, List.map_nil] at this
  simp only [Bool.false_eq_true, if_false]
  rw [show (240 : Int) = ((240 : Nat) : Int) from rfl, show (128 : Int) = ((128 : Nat) : Int) from rfl, e0, e1, e2, e3, this]; rfl
theorem bytesN_lt (n : Nat) (h : n ≤ 1114111) : ∀ x ∈ bytesN n, x < 256 := by
  unfold bytesN
  split
  · simp; omega
  · split
    · simp; omega
    · split <;> simp <;> omega
theorem rTest (s : List UInt8) (k m : Nat) (hm : k + m ≤ s.length) (hs : s.length < 9000000000000) (n : Int) :
    ( if (decide (n ≥ 0)) = true then
        R02_Rune n >>= fun x11 =>
        if x11 = true then
          R02_Bytes n >>= fun x12 =>
          cutL s k (wr ((k : Int) + m)) >>= fun x13 =>
          some (x12 == x13)
        else
          some false
      else
        some false : Option Bool) = some (decide (0 ≤ n) && (runeB n.toNat && decide (bytesN n.toNat = ((s.take (k + m)).drop k).map UInt8.toNat))) := by
  have e : wr ((k : Int) + m) = ((k + m : Nat) : Int) := by rw [wr_in (by omega) (by omega)]; rfl
  by_cases h : 0 ≤ n
  · obtain ⟨v, rfl⟩ : ∃ v : Nat, n = v := ⟨n.toNat, by omega⟩
    rw [decide_eq_true (show (v : Int) ≥ 0 by omega), rIsR, e, cutL_ok (by omega) (by omega) (by omega)]
    simp only [if_true, bind_some', Int.toNat_natCast, Bool.true_and]
    cases hr : runeB v with
    | false => rfl
    | true =>
      have hv : v ≤ 1114111 := by unfold runeB at hr; rw [Bool.and_eq_true] at hr; exact of_decide_eq_true hr.1
      rw [rBytes v hr]
      simp only [if_true, bind_some', bytes_eq _ (bytesN_lt v hv), Bool.true_and]
  · rw [decide_eq_false (show ¬ n ≥ 0 from h)]; rfl

theorem wr64 (a b : Int) (ha : -3000000 ≤ a) (ha2 : a ≤ 3000000) (hb : 0 ≤ b) (hb2 : b ≤ 255) : wr ((wr ((wr (64 * a)) + (wr b))) - 128) = 64 * a + b - 128 := by
  rw [wr_in (n := 64 * a) (by omega) (by omega), wr_in (n := b) (by omega) (by omega), wr_in (n := 64 * a + b) (by omega) (by omega), wr_in (by omega) (by omega)]
/-- What the next byte adds. -/
def addN (a : Int) (c : UInt8) : Int := 64 * a + c.toNat - 128
theorem rL2 (s : List UInt8) (k : Nat) (v6 : List Int) (m : Nat) (hm : k + m ≤ s.length) (hm4 : m ≤ 4) (hs : s.length < 9000000000000) : ∀ d (i : Nat) (v : Int), i + d = m → 1 ≤ i → (i = 1 → -300 ≤ v ∧ v ≤ 300) → (i = 2 → -30000 ≤ v ∧ v ≤ 30000) → (i = 3 → -3000000 ≤ v ∧ v ≤ 3000000) →
    R02_Next_L2 s k v6 m v i = some (((s.drop (k + i)).take d).foldl addN v) := by
  intro d
  induction d with
  | zero =>
    intro i v hi _ _ _ _
    rw [R02_Next_L2, ltI, decide_eq_false (by omega : ¬ i < m)]
    simp
  | succ d ih =>
    intro i v hi hi1 h1 h2 h3
    have hk : k + i < s.length := by omega
    have e1 : wr ((k : Int) + i) = ((k + i : Nat) : Int) := by rw [wr_in (by omega) (by omega)]; rfl
    have hc := s[k + i].toNat_lt
    have hb : -3000000 ≤ v ∧ v ≤ 3000000 := by omega
    rw [R02_Next_L2, ltI, decide_eq_true (by omega : i < m), e1, wr_succ (by omega)]
    simp only [if_true, idx_nat, getE hk, bind_some']
    rw [wr64 v _ hb.1 hb.2 (by omega) (by omega), dropE hk, List.take_succ_cons, List.foldl_cons]
    exact ih (i + 1) (addN v s[k + i]) (by omega) (by omega) (by omega) (by unfold addN; omega) (by unfold addN; omega)
def leadL : List Int := [0, 0, 192, 224, 240]
/-- The number that so many bytes would be. -/
def numN (c : UInt8) (r : List UInt8) (m : Nat) : Int := (r.take (m - 1)).foldl addN ((c.toNat : Int) - (leadL[m]?.getD 0))
def tstB (c : UInt8) (r : List UInt8) (m : Nat) : Bool := decide (0 ≤ numN c r m) && (runeB (numN c r m).toNat && decide (bytesN (numN c r m).toNat = ((c :: r).take m).map UInt8.toNat))
theorem rL1 (s : List UInt8) (k : Nat) (hk : k < s.length) (hs : s.length < 9000000000000) (m : Nat) (h1 : 1 ≤ m) (h4 : m ≤ 4) :
    R02_Next_L1 s k leadL m = if k + m ≤ s.length then (if tstB s[k] (s.drop (k + 1)) m = true then some (.inr (numN s[k] (s.drop (k + 1)) m, (m : Int))) else R02_Next_L1 s k leadL ((m + 1 : Nat) : Int)) else some (.inl ()) := by
  have e0 : wr ((s.length : Int) - k) = ((s.length - k : Nat) : Int) := by rw [wr_in (by omega) (by omega)]; omega
  have a4 : decide ((m : Int) ≤ 4) = true := decide_eq_true (by omega)
  have hc := s[k].toNat_lt
  rw [R02_Next_L1, e0, a4]
  by_cases hm : k + m ≤ s.length
  · have a5 : decide ((m : Int) ≤ ((s.length - k : Nat) : Int)) = true := decide_eq_true (by omega)
    obtain ⟨ld, hld, hl0, hl1⟩ : ∃ ld : Int, leadL[m]? = some ld ∧ 0 ≤ ld ∧ ld ≤ 240 := by
      match m, h1, h4 with
      | 1, _, _ => exact ⟨0, rfl, by omega, by omega⟩
      | 2, _, _ => exact ⟨192, rfl, by omega, by omega⟩
      | 3, _, _ => exact ⟨224, rfl, by omega, by omega⟩
      | 4, _, _ => exact ⟨240, rfl, by omega, by omega⟩
    have ew : wr ((wr (s[k].toNat : Int)) - ld) = (s[k].toNat : Int) - ld := by rw [wr_in (n := (s[k].toNat : Int)) (by omega) (by omega), wr_in (by omega) (by omega)]
    have h2 := rL2 s k leadL m hm h4 hs (m - 1) 1 ((s[k].toNat : Int) - ld) (by omega) (by omega) (by omega) (by omega) (by omega)
    have en : numN s[k] (s.drop (k + 1)) m = ((s.drop (k + 1)).take (m - 1)).foldl addN ((s[k].toNat : Int) - ld) := by rw [numN, hld]; rfl
    rw [← en, show ((1 : Nat) : Int) = 1 from rfl] at h2
    have ht := rTest s k m hm hs (numN s[k] (s.drop (k + 1)) m)
    have et : ((s.take (k + m)).drop k) = ((s[k] :: s.drop (k + 1)).take m) := by rw [← dropE hk, List.drop_take]; congr 1; omega
    rw [et] at ht
    rw [a5, if_pos hm, wr_succ (by omega)]
    simp only [if_true, bind_some', idx_nat, getE hk, hld, ew, h2]
    rw [ht]
    rfl
  · have a5 : decide ((m : Int) ≤ ((s.length - k : Nat) : Int)) = false := decide_eq_false (by omega)
    rw [a5, if_neg hm]
    rfl
theorem tst1 (c : UInt8) (r : List UInt8) : tstB c r 1 = decide (c.toNat < 128) ∧ numN c r 1 = (c.toNat : Int) := by
  have hc := c.toNat_lt
  have en : numN c r 1 = (c.toNat : Int) := by simp [numN, leadL]
  refine ⟨?_, en⟩
  have hr : runeB c.toNat = true := by unfold runeB; rw [decide_eq_true (by omega), decide_eq_false (by omega)]; rfl
  rw [tstB, en, decide_eq_true (by omega), Int.toNat_natCast, hr]
  simp only [Bool.true_and, List.take_succ_cons, List.take_zero, List.map_cons, List.map_nil]
  unfold bytesN
  by_cases h : c.toNat < 128
  · rw [decide_eq_true h, if_pos h]; simp
  · rw [decide_eq_false h, if_neg h, if_pos (by omega)]
    simp
theorem tst2 (c c1 : UInt8) (r : List UInt8) : tstB c (c1 :: r) 2 = decide ((192 ≤ c.toNat ∧ c.toNat < 224) ∧ contB c1 = true ∧ 128 ≤ (c.toNat - 192) * 64 + (c1.toNat - 128)) ∧ numN c (c1 :: r) 2 = 64 * ((c.toNat : Int) - 192) + c1.toNat - 128 := by
  have hc := c.toNat_lt
  have hc1 := c1.toNat_lt
  have en : numN c (c1 :: r) 2 = 64 * ((c.toNat : Int) - 192) + c1.toNat - 128 := by simp [numN, leadL, addN]
  refine ⟨?_, en⟩
  rw [tstB, en]
  simp only [List.take_succ_cons, List.take_zero, List.map_cons, List.map_nil]
  have hcont : contB c1 = true ↔ (128 ≤ c1.toNat ∧ c1.toNat < 192) := by unfold contB; simp
  by_cases hn : 0 ≤ 64 * ((c.toNat : Int) - 192) + c1.toNat - 128
  · obtain ⟨n, hn2⟩ : ∃ n : Nat, 64 * ((c.toNat : Int) - 192) + c1.toNat - 128 = n := ⟨(64 * ((c.toNat : Int) - 192) + c1.toNat - 128).toNat, by omega⟩
    rw [hn2, Int.toNat_natCast, decide_eq_true (by omega), Bool.true_and]
    have hlt : n < 5000 := by omega
    have hr : runeB n = true := by unfold runeB; rw [decide_eq_true (by omega), decide_eq_false (by omega)]; rfl
    rw [hr, Bool.true_and]
    congr 1
    apply propext
    rw [hcont]
    unfold bytesN
    by_cases h1 : n < 128
    · rw [if_pos h1]
      constructor
      · intro h; simp at h
      · intro h; omega
    · rw [if_neg h1]
      by_cases h2 : n < 2048
      · rw [if_pos h2]
        simp only [List.cons.injEq, and_true]
        omega
      · rw [if_neg h2, if_pos (by omega)]
        constructor
        · intro h; simp at h
        · intro h; omega
  · rw [decide_eq_false hn, Bool.false_and, decide_eq_false]
    rw [hcont]; omega
theorem tst3 (c c1 c2 : UInt8) (r : List UInt8) : tstB c (c1 :: c2 :: r) 3 = decide ((224 ≤ c.toNat ∧ c.toNat < 240) ∧ contB c1 = true ∧ contB c2 = true ∧ 2048 ≤ ((c.toNat - 224) * 64 + (c1.toNat - 128)) * 64 + (c2.toNat - 128) ∧ runeB (((c.toNat - 224) * 64 + (c1.toNat - 128)) * 64 + (c2.toNat - 128)) = true) ∧
    numN c (c1 :: c2 :: r) 3 = 64 * (64 * ((c.toNat : Int) - 224) + c1.toNat - 128) + c2.toNat - 128 := by
  have hc := c.toNat_lt
  have hc1 := c1.toNat_lt
  have hc2 := c2.toNat_lt
  have en : numN c (c1 :: c2 :: r) 3 = 64 * (64 * ((c.toNat : Int) - 224) + c1.toNat - 128) + c2.toNat - 128 := by simp [numN, leadL, addN]
  refine ⟨?_, en⟩
  rw [tstB, en]
  simp only [List.take_succ_cons, List.take_zero, List.map_cons, List.map_nil]
  have hcont : contB c1 = true ↔ (128 ≤ c1.toNat ∧ c1.toNat < 192) := by unfold contB; simp
  have hcont2 : contB c2 = true ↔ (128 ≤ c2.toNat ∧ c2.toNat < 192) := by unfold contB; simp
  by_cases hn : 0 ≤ 64 * (64 * ((c.toNat : Int) - 224) + c1.toNat - 128) + c2.toNat - 128
  · obtain ⟨n, hn2⟩ : ∃ n : Nat, 64 * (64 * ((c.toNat : Int) - 224) + c1.toNat - 128) + c2.toNat - 128 = n := ⟨(64 * (64 * ((c.toNat : Int) - 224) + c1.toNat - 128) + c2.toNat - 128).toNat, by omega⟩
    rw [hn2, Int.toNat_natCast, decide_eq_true (by omega), Bool.true_and]
    have hlt : n < 200000 := by omega
    have key : bytesN n = [c.toNat, c1.toNat, c2.toNat] ↔ ((224 ≤ c.toNat ∧ c.toNat < 240) ∧ (128 ≤ c1.toNat ∧ c1.toNat < 192) ∧ (128 ≤ c2.toNat ∧ c2.toNat < 192) ∧ 2048 ≤ n) := by
      unfold bytesN
      by_cases h1 : n < 128
      · rw [if_pos h1]
        exact ⟨fun h => by simp at h, fun h => by omega⟩
      rw [if_neg h1]
      by_cases h2 : n < 2048
      · rw [if_pos h2]
        exact ⟨fun h => by simp at h, fun h => by omega⟩
      rw [if_neg h2]
      by_cases h3 : n < 65536
      · rw [if_pos h3]
        simp only [List.cons.injEq, and_true]
        omega
      · rw [if_neg h3]
        exact ⟨fun h => by simp at h, fun h => by omega⟩
    rw [Bool.eq_iff_iff]
    simp only [Bool.and_eq_true, decide_eq_true_eq]
    rw [key, hcont, hcont2]
    constructor
    · rintro ⟨hr, a, b, c', d⟩
      have e : ((c.toNat - 224) * 64 + (c1.toNat - 128)) * 64 + (c2.toNat - 128) = n := by omega
      exact ⟨a, b, c', by omega, by rw [e]; exact hr⟩
    · rintro ⟨a, b, c', d, hr⟩
      have e : ((c.toNat - 224) * 64 + (c1.toNat - 128)) * 64 + (c2.toNat - 128) = n := by omega
      rw [e] at hr d
      exact ⟨hr, a, b, c', d⟩
  · rw [decide_eq_false hn, Bool.false_and, decide_eq_false]
    rw [hcont, hcont2]; omega
theorem tst4 (c c1 c2 c3 : UInt8) (r : List UInt8) : tstB c (c1 :: c2 :: c3 :: r) 4 = decide ((240 ≤ c.toNat ∧ c.toNat < 248) ∧ contB c1 = true ∧ contB c2 = true ∧ contB c3 = true ∧ 65536 ≤ (((c.toNat - 240) * 64 + (c1.toNat - 128)) * 64 + (c2.toNat - 128)) * 64 + (c3.toNat - 128) ∧ runeB ((((c.toNat - 240) * 64 + (c1.toNat - 128)) * 64 + (c2.toNat - 128)) * 64 + (c3.toNat - 128)) = true) ∧
    numN c (c1 :: c2 :: c3 :: r) 4 = 64 * (64 * (64 * ((c.toNat : Int) - 240) + c1.toNat - 128) + c2.toNat - 128) + c3.toNat - 128 := by
  have hc := c.toNat_lt
  have hc1 := c1.toNat_lt
  have hc2 := c2.toNat_lt
  have hc3 := c3.toNat_lt
  have en : numN c (c1 :: c2 :: c3 :: r) 4 = 64 * (64 * (64 * ((c.toNat : Int) - 240) + c1.toNat - 128) + c2.toNat - 128) + c3.toNat - 128 := by simp [numN, leadL, addN]
  refine ⟨?_, en⟩
  rw [tstB, en]
  simp only [List.take_succ_cons, List.take_zero, List.map_cons, List.map_nil]
  have hcont : contB c1 = true ↔ (128 ≤ c1.toNat ∧ c1.toNat < 192) := by unfold contB; simp
  have hcont2 : contB c2 = true ↔ (128 ≤ c2.toNat ∧ c2.toNat < 192) := by unfold contB; simp
  have hcont3 : contB c3 = true ↔ (128 ≤ c3.toNat ∧ c3.toNat < 192) := by unfold contB; simp
  by_cases hn : 0 ≤ 64 * (64 * (64 * ((c.toNat : Int) - 240) + c1.toNat - 128) + c2.toNat - 128) + c3.toNat - 128
  · obtain ⟨n, hn2⟩ : ∃ n : Nat, 64 * (64 * (64 * ((c.toNat : Int) - 240) + c1.toNat - 128) + c2.toNat - 128) + c3.toNat - 128 = n := ⟨(64 * (64 * (64 * ((c.toNat : Int) - 240) + c1.toNat - 128) + c2.toNat - 128) + c3.toNat - 128).toNat, by omega⟩
    rw [hn2, Int.toNat_natCast, decide_eq_true (by omega), Bool.true_and]
    have key : runeB n = true → (bytesN n = [c.toNat, c1.toNat, c2.toNat, c3.toNat] ↔ ((240 ≤ c.toNat ∧ c.toNat < 248) ∧ (128 ≤ c1.toNat ∧ c1.toNat < 192) ∧ (128 ≤ c2.toNat ∧ c2.toNat < 192) ∧ (128 ≤ c3.toNat ∧ c3.toNat < 192) ∧ 65536 ≤ n)) := fun hr => by
      have hlt : n ≤ 1114111 := by unfold runeB at hr; rw [Bool.and_eq_true] at hr; exact of_decide_eq_true hr.1
      unfold bytesN
      by_cases h1 : n < 128
      · rw [if_pos h1]
        exact ⟨fun h => by simp at h, fun h => by omega⟩
      rw [if_neg h1]
      by_cases h2 : n < 2048
      · rw [if_pos h2]
        exact ⟨fun h => by simp at h, fun h => by omega⟩
      rw [if_neg h2]
      by_cases h3 : n < 65536
      · rw [if_pos h3]
        exact ⟨fun h => by simp at h, fun h => by omega⟩
      · rw [if_neg h3]
        simp only [List.cons.injEq, and_true]
        omega
    rw [Bool.eq_iff_iff]
    simp only [Bool.and_eq_true, decide_eq_true_eq]
    rw [hcont, hcont2, hcont3]
    constructor
    · rintro ⟨hr, hb⟩
      obtain ⟨a, b, c', d', d⟩ := (key hr).1 hb
      have e : (((c.toNat - 240) * 64 + (c1.toNat - 128)) * 64 + (c2.toNat - 128)) * 64 + (c3.toNat - 128) = n := by omega
      exact ⟨a, b, c', d', by omega, by rw [e]; exact hr⟩
    · rintro ⟨a, b, c', d', d, hr⟩
      have e : (((c.toNat - 240) * 64 + (c1.toNat - 128)) * 64 + (c2.toNat - 128)) * 64 + (c3.toNat - 128) = n := by omega
      rw [e] at hr d
      exact ⟨hr, (key hr).2 ⟨a, b, c', d', d⟩⟩
  · rw [decide_eq_false hn, Bool.false_and, decide_eq_false]
    rw [hcont, hcont2, hcont3]; omega
theorem rNext (s : List UInt8) (k : Nat) (hk : k < s.length) (hs : s.length < 9000000000000) : R02_Next s k = some (((nextP (s.drop k)).1 : Int), ((nextP (s.drop k)).2 : Int)) := by
  have d1 : decide ((k : Int) < 0) = false := decide_eq_false (by omega)
  have d2 : decide ((k : Int) ≥ (s.length : Int)) = false := decide_eq_false (by omega)
  have hc := s[k].toNat_lt
  have l1 := rL1 s k hk hs 1 (by omega) (by omega)
  have l2 := rL1 s k hk hs 2 (by omega) (by omega)
  have l3 := rL1 s k hk hs 3 (by omega) (by omega)
  have l4 := rL1 s k hk hs 4 (by omega) (by omega)
  have l5 : R02_Next_L1 s k leadL ((4 + 1 : Nat) : Int) = some (.inl ()) := by
    rw [R02_Next_L1, show decide (((4 + 1 : Nat) : Int) ≤ 4) = false from rfl]
    simp only [Bool.false_eq_true, if_false, bind_some']
  have hdl : (s.drop (k + 1)).length = s.length - (k + 1) := List.length_drop
  rw [R02_Next, d1, d2, dropE hk, nextP]
  show (R02_Next_L1 s k leadL ((1 : Nat) : Int) >>= _) = _
  rw [l1, if_pos (by omega), (tst1 _ _).1, (tst1 _ _).2, l2]
  unfold nextC
  by_cases h1 : s[k].toNat < 128
  · rw [decide_eq_true h1, if_pos rfl, if_pos h1]; rfl
  rw [decide_eq_false h1, if_neg (by decide), if_neg h1]
  generalize hr : s.drop (k + 1) = r at *
  match r with
  | [] =>
    simp at hdl
    rw [if_neg (by omega)]
    simp
  | [c1] =>
    simp at hdl
    have hc1 := c1.toNat_lt
    rw [if_pos (by omega), (tst2 _ _ _).1, (tst2 _ _ _).2, l3, if_neg (by omega : ¬ k + 3 ≤ s.length)]
    dsimp only
    by_cases h2 : 192 ≤ s[k].toNat ∧ s[k].toNat < 224
    · rw [if_pos h2]
      by_cases h3 : contB c1 = true ∧ 128 ≤ (s[k].toNat - 192) * 64 + (c1.toNat - 128)
      · have h4 : 128 ≤ c1.toNat := by have := h3.1; unfold contB at this; simp at this; exact this.1
        rw [decide_eq_true ⟨h2, h3⟩, if_pos rfl, if_pos h3]
        simp only [bind_some']
        congr 2
        omega
      · rw [decide_eq_false (fun h => h3 h.2), if_neg (by decide), if_neg h3]; rfl
    · rw [decide_eq_false (fun h => h2 h.1), if_neg (by decide), if_neg h2]
      simp
  | [c1, c2] =>
    simp at hdl
    have hc1 := c1.toNat_lt
    have hc2 := c2.toNat_lt
    rw [if_pos (by omega), (tst2 _ _ _).1, (tst2 _ _ _).2, l3, if_pos (by omega : k + 3 ≤ s.length), (tst3 _ _ _ _).1, (tst3 _ _ _ _).2, l4, if_neg (by omega : ¬ k + 4 ≤ s.length)]
    dsimp only
    by_cases h2 : 192 ≤ s[k].toNat ∧ s[k].toNat < 224
    · rw [if_pos h2]
      by_cases h3 : contB c1 = true ∧ 128 ≤ (s[k].toNat - 192) * 64 + (c1.toNat - 128)
      · have h4 : 128 ≤ c1.toNat := by have := h3.1; unfold contB at this; simp at this; exact this.1
        rw [decide_eq_true ⟨h2, h3⟩, if_pos rfl, if_pos h3]
        simp only [bind_some']
        congr 2
        omega
      · rw [decide_eq_false (fun h => h3 h.2), if_neg (by decide), if_neg h3, decide_eq_false (fun h => by have := h.1; omega), if_neg (by decide)]; rfl
    · rw [decide_eq_false (fun h => h2 h.1), if_neg (by decide), if_neg h2]
      by_cases h5 : 224 ≤ s[k].toNat ∧ s[k].toNat < 240
      · rw [if_pos h5]
        by_cases h6 : contB c1 = true ∧ contB c2 = true ∧ 2048 ≤ ((s[k].toNat - 224) * 64 + (c1.toNat - 128)) * 64 + (c2.toNat - 128) ∧ runeB (((s[k].toNat - 224) * 64 + (c1.toNat - 128)) * 64 + (c2.toNat - 128)) = true
        · have h4 : 128 ≤ c1.toNat := by have := h6.1; unfold contB at this; simp at this; exact this.1
          have h4' : 128 ≤ c2.toNat := by have := h6.2.1; unfold contB at this; simp at this; exact this.1
          rw [decide_eq_true ⟨h5, h6⟩, if_pos rfl, if_pos h6]
          simp only [bind_some']
          congr 2
          omega
        · rw [decide_eq_false (fun h => h6 h.2), if_neg (by decide), if_neg h6]; rfl
      · rw [decide_eq_false (fun h => h5 h.1), if_neg (by decide), if_neg h5]
        simp
  | c1 :: c2 :: c3 :: r =>
    simp at hdl
    have hc1 := c1.toNat_lt
    have hc2 := c2.toNat_lt
    have hc3 := c3.toNat_lt
    rw [if_pos (by omega), (tst2 _ _ _).1, (tst2 _ _ _).2, l3, if_pos (by omega : k + 3 ≤ s.length), (tst3 _ _ _ _).1, (tst3 _ _ _ _).2, l4, if_pos (by omega : k + 4 ≤ s.length), (tst4 _ _ _ _ _).1, (tst4 _ _ _ _ _).2, l5]
    dsimp only
    by_cases h2 : 192 ≤ s[k].toNat ∧ s[k].toNat < 224
    · rw [if_pos h2]
      by_cases h3 : contB c1 = true ∧ 128 ≤ (s[k].toNat - 192) * 64 + (c1.toNat - 128)
      · have h4 : 128 ≤ c1.toNat := by have := h3.1; unfold contB at this; simp at this; exact this.1
        rw [decide_eq_true ⟨h2, h3⟩, if_pos rfl, if_pos h3]
        simp only [bind_some']
        congr 2
        omega
      · rw [decide_eq_false (fun h => h3 h.2), if_neg (by decide), if_neg h3, decide_eq_false (fun h => by have := h.1; omega), if_neg (by decide), decide_eq_false (fun h => by have := h.1; omega), if_neg (by decide)]; rfl
    · rw [decide_eq_false (fun h => h2 h.1), if_neg (by decide), if_neg h2]
      by_cases h5 : 224 ≤ s[k].toNat ∧ s[k].toNat < 240
      · rw [if_pos h5]
        by_cases h6 : contB c1 = true ∧ contB c2 = true ∧ 2048 ≤ ((s[k].toNat - 224) * 64 + (c1.toNat - 128)) * 64 + (c2.toNat - 128) ∧ runeB (((s[k].toNat - 224) * 64 + (c1.toNat - 128)) * 64 + (c2.toNat - 128)) = true
        · have h4 : 128 ≤ c1.toNat := by have := h6.1; unfold contB at this; simp at this; exact this.1
          have h4' : 128 ≤ c2.toNat := by have := h6.2.1; unfold contB at this; simp at this; exact this.1
          rw [decide_eq_true ⟨h5, h6⟩, if_pos rfl, if_pos h6]
          simp only [bind_some']
          congr 2
          omega
        · rw [decide_eq_false (fun h => h6 h.2), if_neg (by decide), if_neg h6, decide_eq_false (fun h => by have := h.1; omega), if_neg (by decide)]; rfl
      · rw [decide_eq_false (fun h => h5 h.1), if_neg (by decide), if_neg h5]
        by_cases h7 : 240 ≤ s[k].toNat ∧ s[k].toNat < 248
        · rw [if_pos h7]
          by_cases h8 : contB c1 = true ∧ contB c2 = true ∧ contB c3 = true ∧ 65536 ≤ (((s[k].toNat - 240) * 64 + (c1.toNat - 128)) * 64 + (c2.toNat - 128)) * 64 + (c3.toNat - 128) ∧ runeB ((((s[k].toNat - 240) * 64 + (c1.toNat - 128)) * 64 + (c2.toNat - 128)) * 64 + (c3.toNat - 128)) = true
          · have h4 : 128 ≤ c1.toNat := by have := h8.1; unfold contB at this; simp at this; exact this.1
            have h4' : 128 ≤ c2.toNat := by have := h8.2.1; unfold contB at this; simp at this; exact this.1
            have h4'' : 128 ≤ c3.toNat := by have := h8.2.2.1; unfold contB at this; simp at this; exact this.1
            rw [decide_eq_true ⟨h7, h8⟩, if_pos rfl, if_pos h8]
            simp only [bind_some']
            congr 2
            omega
          · rw [decide_eq_false (fun h => h8 h.2), if_neg (by decide), if_neg h8]; rfl
        · rw [decide_eq_false (fun h => h7 h.1), if_neg (by decide), if_neg h7]
          rfl
end Go.Proofs.YtebkhehjfkmdiaaDoor
end

section
namespace Go.Proofs.YtebkhehjfkmdiaaDoor
open Go.RowKit

def smallB (c : UInt8) : Bool := decide (97 ≤ c.toNat) && decide (c.toNat ≤ 122)
def digB (c : UInt8) : Bool := decide (48 ≤ c.toNat) && decide (c.toNat ≤ 57)
def letB (c : UInt8) : Bool := smallB c || (digB c || c.toNat == 95)
def headB : List UInt8 → Bool
  | [] => false
  | c :: _ => decide (97 ≤ c.toNat)
theorem headB_cons (c : UInt8) (r : List UInt8) : headB (c :: r) = decide (97 ≤ c.toNat) := rfl
def wordP (s : List UInt8) : Bool := !(s == []) && (decide (s.length ≤ 32) && (headB s && s.all letB))
theorem geN (n k : Nat) : decide ((n : Int) ≥ (k : Int)) = decide (k ≤ n) := by
  by_cases h : k ≤ n
  · rw [decide_eq_true h, decide_eq_true (by omega : (n : Int) ≥ k)]
  · rw [decide_eq_false h, decide_eq_false (by omega)]
theorem leN (n k : Nat) : decide ((n : Int) ≤ (k : Int)) = decide (n ≤ k) := by
  by_cases h : n ≤ k
  · rw [decide_eq_true h, decide_eq_true (by omega : (n : Int) ≤ k)]
  · rw [decide_eq_false h, decide_eq_false (by omega)]
theorem eqN (n k : Nat) : ((n : Int) == (k : Int)) = (n == k) := by
  by_cases h : n = k
  · subst h; simp
  · rw [beq_eq_false_iff_ne.2 h, beq_eq_false_iff_ne.2 (by omega)]
theorem lDigit (c : UInt8) : lex_digit (c.toNat : Int) = some (digB c) := by
  have a := geN c.toNat 48
  have b := leN c.toNat 57
  rw [lex_digit]
  rw [show (48 : Int) = ((48 : Nat) : Int) from rfl, show (57 : Int) = ((57 : Nat) : Int) from rfl, a, b, digB]
  cases decide (48 ≤ c.toNat) <;> rfl
theorem rDigit (c : UInt8) : R18_digit (c.toNat : Int) = some (digB c) := by
  have a := geN c.toNat 48
  have b := leN c.toNat 57
  rw [R18_digit]
  rw [show (48 : Int) = ((48 : Nat) : Int) from rfl, show (57 : Int) = ((57 : Nat) : Int) from rfl, a, b, digB]
  cases decide (48 ≤ c.toNat) <;> rfl
theorem rSmall (c : UInt8) : R18_small (c.toNat : Int) = some (smallB c) := by
  have a := geN c.toNat 97
  have b := leN c.toNat 122
  rw [R18_small]
  rw [show (97 : Int) = ((97 : Nat) : Int) from rfl, show (122 : Int) = ((122 : Nat) : Int) from rfl, a, b, smallB]
  cases decide (97 ≤ c.toNat) <;> rfl
theorem lLetter (c : UInt8) : lex_letter (c.toNat : Int) = some (letB c) := by
  have a := geN c.toNat 97
  have b := leN c.toNat 122
  have d := eqN c.toNat 95
  rw [lex_letter, lDigit]
  rw [show (97 : Int) = ((97 : Nat) : Int) from rfl, show (122 : Int) = ((122 : Nat) : Int) from rfl, show (95 : Int) = ((95 : Nat) : Int) from rfl, a, b, d, letB, smallB]
  simp only [bind_some']
  cases decide (97 ≤ c.toNat) <;> cases decide (c.toNat ≤ 122) <;> cases digB c <;> cases (c.toNat == 95) <;> rfl
theorem lWordL (s : List UInt8) (hs : s.length < 9223372036854775807) : ∀ k, k ≤ s.length → lex_Word_L1 s k = some (if (s.drop k).all letB then .inl () else .inr ()) := by
  refine upto ?_ fun k hk ih => ?_
  · rw [lex_Word_L1]; simp
  · rw [lex_Word_L1, wr_succ (by omega), ih]
    simp only [ltI, hk, decide_true, if_true, idx_nat, getE hk, bind_some', lLetter]
    rw [dropE hk, List.all_cons]
    cases letB s[k] <;> rfl
theorem lWord (s : List UInt8) (hs : s.length < 9223372036854775807) : lex_Word s = some (wordP s) := by
  have h := lWordL s hs 0 (by omega)
  rw [lex_Word, show (0 : Int) = ((0 : Nat) : Int) from rfl, h, List.drop_zero, wordP]
  have e := leN s.length 32
  rw [show (32 : Int) = ((32 : Nat) : Int) from rfl, e]
  cases ha : s.all letB with
  | false => cases (s == []) <;> cases decide (s.length ≤ 32) <;> cases headB s <;> rfl
  | true =>
    cases s with
    | nil => rfl
    | cons c r =>
      have g := geN c.toNat 97
      rw [show (97 : Int) = ((97 : Nat) : Int) from rfl]
      simp only [if_true, bind_some', idx_nat, List.getElem?_cons_zero, g, headB_cons]
      have e0 : ((c :: r) == ([] : List UInt8)) = false := rfl
      rw [e0]
      cases decide ((c :: r).length ≤ 32) <;> simp
theorem letSmall {c : UInt8} (h : letB c = true) : smallB c = decide (97 ≤ c.toNat) := by
  unfold letB smallB digB at *
  by_cases h1 : 97 ≤ c.toNat
  · rw [decide_eq_true h1] at h ⊢
    simp at h ⊢
    omega
  · rw [decide_eq_false h1]; rfl
theorem rWordL (s : List UInt8) (hs : s.length < 9223372036854775807) : ∀ k, k ≤ s.length → R18_Word_L1 s k = some (if (s.drop k).all letB then .inl () else .inr ()) := by
  refine upto ?_ fun k hk ih => ?_
  · rw [R18_Word_L1]; simp
  · have d := eqN s[k].toNat 95
    rw [R18_Word_L1, wr_succ (by omega), ih]
    simp only [ltI, hk, decide_true, if_true, idx_nat, getE hk, bind_some', rSmall, rDigit]
    rw [dropE hk, List.all_cons, letB]
    have e : (((s[k].toNat : Nat) : Int) != 95) = !(s[k].toNat == 95) := by rw [← d]; rfl
    rw [e]
    cases smallB s[k] <;> cases digB s[k] <;> cases (s[k].toNat == 95) <;> rfl
theorem rWord (s : List UInt8) (hs : s.length < 9223372036854775807) : R18_Word s = some (wordP s) := by
  have h := rWordL s hs 0 (by omega)
  rw [R18_Word, show (0 : Int) = ((0 : Nat) : Int) from rfl, h, List.drop_zero, wordP]
  cases s with
  | nil => rfl
  | cons c r =>
    have e1 : decide ((((c :: r).length : Nat) : Int) < 1) = false := decide_eq_false (by simp; omega)
    have e2 : decide ((((c :: r).length : Nat) : Int) > 32) = !(decide ((c :: r).length ≤ 32)) := by
      by_cases h : (c :: r).length ≤ 32
      · rw [decide_eq_true h, decide_eq_false (by omega)]; rfl
      · rw [decide_eq_false h, decide_eq_true (by omega)]; rfl
    simp only [e1, e2, Bool.false_eq_true, if_false, idx_nat, List.getElem?_cons_zero, bind_some', rSmall, headB_cons]
    have e0 : ((c :: r) == ([] : List UInt8)) = false := rfl
    rw [e0]
    cases ha : (c :: r).all letB with
    | true =>
      have hl : letB c = true := by rw [List.all_cons, Bool.and_eq_true] at ha; exact ha.1
      rw [letSmall hl]
      cases decide ((c :: r).length ≤ 32) <;> cases decide (97 ≤ c.toNat) <;> rfl
    | false => cases decide ((c :: r).length ≤ 32) <;> cases decide (97 ≤ c.toNat) <;> cases smallB c <;> rfl
theorem s2b_app (a b : List UInt8) : s2b (a ++ b) = s2b a ++ s2b b := by simp [s2b]
theorem s2b_len (a : List UInt8) : (s2b a).length = a.length := by simp [s2b]
theorem b2s_s2b (l : List UInt8) : b2s (s2b l) = some l := by
  unfold b2s s2b
  rw [if_pos]
  · rw [List.map_map]
    congr 1
    have : ∀ c : UInt8, ((fun n : Int => UInt8.ofNat n.toNat) ∘ fun c : UInt8 => (c.toNat : Int)) c = c := fun c => by simp
    rw [show ((fun n : Int => UInt8.ofNat n.toNat) ∘ fun c : UInt8 => (c.toNat : Int)) = id from funext this, List.map_id]
  · rw [List.all_eq_true]
    intro n hn
    obtain ⟨c, -, rfl⟩ := List.mem_map.1 hn
    have := c.toNat_lt
    simp only [decide_eq_true_eq]
    omega
end Go.Proofs.YtebkhehjfkmdiaaDoor
end

section
namespace Go.Proofs.YtebkhehjfkmdiaaDoor
open Go.RowKit

def utfF : Nat → List UInt8 → Bool
  | 0, _ => true
  | n + 1, l => match l with
    | [] => true
    | _ :: _ => if (nextP l).1 = 65533 ∧ (nextP l).2 = 1 then false else utfF n (l.drop (nextP l).2)
theorem utfF_step (n : Nat) (l : List UInt8) (h : l ≠ []) : utfF (n + 1) l = if (nextP l).1 = 65533 ∧ (nextP l).2 = 1 then false else utfF n (l.drop (nextP l).2) := by
  cases l with
  | nil => exact absurd rfl h
  | cons c r => rfl
theorem badI (p : Nat × Nat) : (if (((p.1 : Nat) : Int) == 65533) = true then some (((p.2 : Nat) : Int) == 1) else some false : Option Bool) = some (decide (p.1 = 65533 ∧ p.2 = 1)) := by
  have a := eqN p.1 65533
  have b := eqN p.2 1
  rw [show (65533 : Int) = ((65533 : Nat) : Int) from rfl, show (1 : Int) = ((1 : Nat) : Int) from rfl, a, b]
  by_cases h1 : p.1 = 65533
  · rw [beq_iff_eq.2 h1, if_pos rfl]
    by_cases h2 : p.2 = 1
    · rw [beq_iff_eq.2 h2, decide_eq_true ⟨h1, h2⟩]
    · rw [beq_eq_false_iff_ne.2 h2, decide_eq_false (fun h => h2 h.2)]
  · rw [beq_eq_false_iff_ne.2 h1, if_neg (by decide), decide_eq_false (fun h => h1 h.1)]
theorem rIsU (s : List UInt8) (hs : s.length < 9000000000000) : ∀ n k, k ≤ s.length → s.length - k ≤ n → R02_Is_L1 s k = some (if utfF n (s.drop k) = true then .inl () else .inr ()) := by
  intro n
  induction n with
  | zero =>
    intro k h1 h2
    rw [R02_Is_L1, ltI, decide_eq_false (by omega : ¬ k < s.length)]
    rfl
  | succ n ih =>
    intro k h1 h2
    by_cases hk : k < s.length
    · have hne : s.drop k ≠ [] := by rw [dropE hk]; exact List.cons_ne_nil _ _
      obtain ⟨z1, z2⟩ := nextP_size _ hne
      rw [List.length_drop] at z2
      have ew : wr ((k : Int) + ((nextP (s.drop k)).2 : Int)) = ((k + (nextP (s.drop k)).2 : Nat) : Int) := by rw [wr_in (by omega) (by omega)]; rfl
      rw [R02_Is_L1, ltI, decide_eq_true hk, rNext s k hk hs]
      simp only [if_true, bind_some']
      rw [badI (nextP (s.drop k)), ew, ih _ (by omega) (by omega), utfF_step n _ hne, List.drop_drop]
      by_cases hb : (nextP (s.drop k)).1 = 65533 ∧ (nextP (s.drop k)).2 = 1
      · rw [decide_eq_true hb, if_pos hb]; rfl
      · rw [decide_eq_false hb, if_neg hb]; rfl
    · rw [R02_Is_L1, ltI, decide_eq_false hk, List.drop_eq_nil_of_le (by omega)]
      rfl
theorem tIsU (s : List UInt8) (x1 : List UInt8) (hs : s.length < 9000000000000) : ∀ n k, k ≤ s.length → s.length - k ≤ n → ∃ out, utf_all_1_L1 s k = some (out, ()) ∧ utf_Is_L1 x1 out = some (if utfF n (s.drop k) = true then .inl () else .inr ()) := by
  intro n
  induction n with
  | zero =>
    intro k h1 h2
    rw [utf_all_1_L1, ltI, decide_eq_false (by omega : ¬ k < s.length)]
    refine ⟨[], rfl, ?_⟩
    rw [utf_Is_L1]; rfl
  | succ n ih =>
    intro k h1 h2
    by_cases hk : k < s.length
    · have hne : s.drop k ≠ [] := by rw [dropE hk]; exact List.cons_ne_nil _ _
      obtain ⟨z1, z2⟩ := nextP_size _ hne
      rw [List.length_drop] at z2
      have ew : wr ((k : Int) + ((nextP (s.drop k)).2 : Int)) = ((k + (nextP (s.drop k)).2 : Nat) : Int) := by rw [wr_in (by omega) (by omega)]; rfl
      obtain ⟨out, o1, o2⟩ := ih (k + (nextP (s.drop k)).2) (by omega) (by omega)
      rw [utf_all_1_L1, ltI, decide_eq_true hk, tNext s k hk (by omega)]
      simp only [if_true, bind_some']
      rw [ew, o1]
      refine ⟨_, rfl, ?_⟩
      rw [utf_Is_L1]
      simp only
      rw [badI (nextP (s.drop k)), o2, utfF_step n _ hne, List.drop_drop]
      by_cases hb : (nextP (s.drop k)).1 = 65533 ∧ (nextP (s.drop k)).2 = 1
      · rw [decide_eq_true hb, if_pos hb]; rfl
      · rw [decide_eq_false hb, if_neg hb]; rfl
    · rw [utf_all_1_L1, ltI, decide_eq_false hk, List.drop_eq_nil_of_le (by omega)]
      refine ⟨[], rfl, ?_⟩
      rw [utf_Is_L1]; rfl
theorem rUtf (s : List UInt8) (hs : s.length < 9000000000000) : R02_Is s = some (utfF s.length s) := by
  have := rIsU s hs s.length 0 (by omega) (by omega)
  rw [R02_Is, show (0 : Int) = ((0 : Nat) : Int) from rfl, this, List.drop_zero]
  cases utfF s.length s <;> rfl
theorem tUtf (s : List UInt8) (hs : s.length < 9000000000000) : utf_Is s = some (utfF s.length s) := by
  obtain ⟨out, o1, o2⟩ := tIsU s s hs s.length 0 (by omega) (by omega)
  rw [List.drop_zero] at o2
  rw [utf_Is, utf_all]
  simp only [bind_some']
  rw [utf_all_1, show (0 : Int) = ((0 : Nat) : Int) from rfl, o1]
  simp only [bind_some', List.append_nil, o2]
  cases utfF s.length s <;> rfl
def qb (c : UInt8) : List UInt8 := if c = 10 then [92, 110] else if c = 9 then [92, 116] else if c = 34 ∨ c = 92 then [92, c] else [c]
def qs (s : List UInt8) : List UInt8 := s.flatMap qb
theorem qb_len (c : UInt8) : (qb c).length ≤ 2 := by unfold qb; split; simp; split; simp; split <;> simp
theorem qs_len : ∀ s : List UInt8, (qs s).length ≤ 2 * s.length
  | [] => by simp [qs]
  | c :: r => by
    have := qs_len r
    have := qb_len c
    simp [qs] at *
    omega
theorem eqC (c : UInt8) (k : Nat) (hk : k < 256) : ((c.toNat : Int) == (k : Int)) = decide (c = UInt8.ofNat k) := by
  rw [eqN]
  by_cases h : c.toNat = k
  · rw [beq_iff_eq.2 h, decide_eq_true]
    apply UInt8.toNat_inj.1
    rw [h, UInt8.toNat_ofNat', Nat.mod_eq_of_lt hk]
  · rw [beq_eq_false_iff_ne.2 h, decide_eq_false]
    intro e; apply h; rw [e, UInt8.toNat_ofNat', Nat.mod_eq_of_lt hk]
theorem tQuoteL (s : List UInt8) (hs : s.length ≤ 1000000) : ∀ k, k ≤ s.length → ∀ acc : List Int, acc.length ≤ 2 * k + 1 → lex_Quote_L1 s acc k = some (acc ++ s2b (qs (s.drop k))) := by
  refine upto ?_ fun k hk ih => ?_
  · intro acc _
    rw [lex_Quote_L1]; simp [qs, s2b]
  · intro acc ha
    have e10 := eqC s[k] 10 (by omega)
    have e9 := eqC s[k] 9 (by omega)
    have e34 := eqC s[k] 34 (by omega)
    have e92 := eqC s[k] 92 (by omega)
    rw [lex_Quote_L1, wr_succ (by omega)]
    simp only [ltI, hk, decide_true, if_true, idx_nat, getE hk, bind_some']
    rw [show (10 : Int) = ((10 : Nat) : Int) from rfl, show (9 : Int) = ((9 : Nat) : Int) from rfl, show (34 : Int) = ((34 : Nat) : Int) from rfl, show (92 : Int) = ((92 : Nat) : Int) from rfl, e10, e9, e34, e92]
    have eq : qs (s.drop k) = qb s[k] ++ qs (s.drop (k + 1)) := by rw [dropE hk]; rfl
    have step : ∀ w : List UInt8, qb s[k] = w → (appL 1 acc (s2b w) >>= fun x => lex_Quote_L1 s x ((k + 1 : Nat) : Int)) = some (acc ++ s2b (qs (s.drop k))) := fun w hw => by
      have hl : w.length ≤ 2 := by rw [← hw]; exact qb_len _
      rw [appL_ok (by rw [s2b_len]; omega) (by rw [s2b_len]; omega), bind_some', ih _ (by rw [List.length_append, s2b_len]; omega), eq, hw, s2b_app, List.append_assoc]
    by_cases h10 : s[k] = 10
    · rw [decide_eq_true (show s[k] = UInt8.ofNat 10 from h10)]
      exact step [92, 110] (by unfold qb; rw [if_pos h10])
    have h10' : decide (s[k] = UInt8.ofNat 10) = false := decide_eq_false h10
    rw [h10']
    by_cases h9 : s[k] = 9
    · rw [decide_eq_true (show s[k] = UInt8.ofNat 9 from h9)]
      exact step [92, 116] (by unfold qb; rw [if_neg h10, if_pos h9])
    have h9' : decide (s[k] = UInt8.ofNat 9) = false := decide_eq_false h9
    rw [h9']
    have e : (if decide (s[k] = UInt8.ofNat 34) = true then some (decide (s[k] = UInt8.ofNat 34)) else some (decide (s[k] = UInt8.ofNat 92)) : Option Bool) = some (decide (s[k] = 34 ∨ s[k] = 92)) := by
      by_cases h : s[k] = 34
      · rw [decide_eq_true (show s[k] = UInt8.ofNat 34 from h), decide_eq_true (show s[k] = 34 ∨ s[k] = 92 from .inl h)]; rfl
      · rw [decide_eq_false (show ¬ s[k] = UInt8.ofNat 34 from h)]
        by_cases h' : s[k] = 92
        · rw [decide_eq_true (show s[k] = UInt8.ofNat 92 from h'), decide_eq_true (show s[k] = 34 ∨ s[k] = 92 from .inr h')]; rfl
        · rw [decide_eq_false (show ¬ s[k] = UInt8.ofNat 92 from h'), decide_eq_false (show ¬ (s[k] = 34 ∨ s[k] = 92) from fun q => q.elim h h')]; rfl
    simp only [Bool.false_eq_true, if_false]
    rw [e]
    simp only [bind_some']
    by_cases h34 : s[k] = 34 ∨ s[k] = 92
    · rw [decide_eq_true h34]
      exact step [92, s[k]] (by unfold qb; rw [if_neg h10, if_neg h9, if_pos h34])
    · rw [decide_eq_false h34]
      exact step [s[k]] (by unfold qb; rw [if_neg h10, if_neg h9, if_neg h34])
theorem rQuoteL (s : List UInt8) (hs : s.length ≤ 1000000) : ∀ k, k ≤ s.length → ∀ acc : List UInt8, acc.length ≤ 2 * k + 1 → R18_Quote_L1 s acc k = some (if (s.drop k).any (· == 13) = true then .inr () else .inl (acc ++ qs (s.drop k))) := by
  refine upto ?_ fun k hk ih => ?_
  · intro acc _
    rw [R18_Quote_L1]; simp [qs]
  · intro acc ha
    have ec : cutL s k (wr ((k : Int) + 1)) = some [s[k]] := by
      rw [wr_succ (by omega), cutL_ok (by omega) (by omega) (by omega), Int.toNat_natCast, Int.toNat_natCast]
      congr 1
      rw [List.drop_take, dropE hk]
      have : k + 1 - k = 1 := by omega
      rw [this]; rfl
    have eq : qs (s.drop k) = qb s[k] ++ qs (s.drop (k + 1)) := by rw [dropE hk]; rfl
    have eany : (s.drop k).any (· == 13) = (s[k] == 13 || (s.drop (k + 1)).any (· == 13)) := by rw [dropE hk]; rfl
    have e1 : ∀ b : UInt8, (([s[k]] : List UInt8) == [b]) = decide (s[k] = b) := fun b => by
      rw [List.cons_beq_cons]
      by_cases h : s[k] = b
      · rw [decide_eq_true h, beq_iff_eq.2 h]; rfl
      · rw [decide_eq_false h, beq_eq_false_iff_ne.2 h]; rfl
    have hq := qb_len s[k]
    rw [R18_Quote_L1, ec, wr_succ (by omega), eany, eq]
    simp only [ltI, hk, decide_true, if_true, bind_some', e1]
    by_cases h13 : s[k] = 13
    · rw [decide_eq_true h13, beq_iff_eq.2 h13]; rfl
    rw [decide_eq_false h13, beq_eq_false_iff_ne.2 h13]
    have n1 : need (([92] : List UInt8).length + [s[k]].length ≤ 9223372036854775807) = some () := need_ok (by simp)
    have step : ∀ w : List UInt8, qb s[k] = w → (need (acc.length + w.length ≤ 9223372036854775807) >>= fun _ => R18_Quote_L1 s (acc ++ w) ((k + 1 : Nat) : Int)) = some (if (s.drop (k + 1)).any (· == 13) = true then .inr () else .inl (acc ++ (qb s[k] ++ qs (s.drop (k + 1))))) := fun w hw => by
      rw [need_ok (by rw [← hw]; omega), bind_some', ih _ (by rw [List.length_append, ← hw]; omega), hw, List.append_assoc]
    simp only [Bool.false_eq_true, if_false, Bool.false_or, n1, bind_some']
    by_cases h10 : s[k] = 10
    · rw [decide_eq_true h10]
      exact step [92, 110] (by unfold qb; rw [if_pos h10])
    rw [decide_eq_false h10]
    by_cases h9 : s[k] = 9
    · rw [decide_eq_true h9]
      exact step [92, 116] (by unfold qb; rw [if_neg h10, if_pos h9])
    rw [decide_eq_false h9]
    by_cases h34 : s[k] = 34
    · rw [decide_eq_true h34]
      exact step ([92] ++ [s[k]]) (by unfold qb; rw [if_neg h10, if_neg h9, if_pos (show s[k] = 34 ∨ s[k] = 92 from .inl h34)]; rfl)
    rw [decide_eq_false h34]
    by_cases h92 : s[k] = 92
    · rw [decide_eq_true h92]
      exact step ([92] ++ [s[k]]) (by unfold qb; rw [if_neg h10, if_neg h9, if_pos (show s[k] = 34 ∨ s[k] = 92 from .inr h92)]; rfl)
    · rw [decide_eq_false h92]
      exact step [s[k]] (by unfold qb; rw [if_neg h10, if_neg h9, if_neg (show ¬ (s[k] = 34 ∨ s[k] = 92) from fun q => q.elim h34 h92)])
theorem idx13 : ∀ s : List UInt8, decide (Lib.indexByte s 13 ≥ 0) = s.any (· == 13)
  | [] => rfl
  | c :: r => by
    have ih := idx13 r
    have hg := Lib.indexByte_ge r 13
    unfold Lib.indexByte
    rw [List.any_cons]
    cases hc : (c == 13) with
    | true => rfl
    | false =>
      simp only [Bool.false_eq_true, if_false, Bool.false_or]
      rw [← ih]
      by_cases h1 : Lib.indexByte r 13 = -1
      · rw [h1]; rfl
      · rw [if_neg (by simpa using h1), decide_eq_true (by omega), decide_eq_true (by omega)]
/-- What both make of a text. -/
def quoV (s : List UInt8) : List UInt8 × Bool := if utfF s.length s = true ∧ s.any (· == 13) = false then ([34] ++ qs s ++ [34], true) else ([], false)
theorem quoteV (s : List UInt8) (hs : s.length ≤ 1000000) : lex_Quote s = some (quoV s) ∧ R18_Quote s = some (quoV s) ∧ (quoV s).1.length ≤ 2 * s.length + 2 := by
  unfold quoV
  have hl := qs_len s
  have t := tQuoteL s hs 0 (by omega) [34] (by simp)
  have r := rQuoteL s hs 0 (by omega) [34] (by simp)
  rw [List.drop_zero] at t r
  have e13 : decide (Lib.indexByte s (13 : Int).toNat.toUInt8 ≥ 0) = s.any (· == 13) := idx13 s
  refine ⟨?_, ?_, ?_⟩
  · rw [lex_Quote, tUtf s (by omega), strings_IndexByte, internal_stringslite_IndexByte]
    simp only [bind_some', e13]
    cases hu : utfF s.length s with
    | false => rfl
    | true =>
      cases ha : s.any (· == 13) with
      | true => rfl
      | false =>
        simp only [Bool.not_true, Bool.false_eq_true, if_false, bind_some', if_true, and_self]
        rw [show (0 : Int) = ((0 : Nat) : Int) from rfl, t]
        simp only [bind_some']
        rw [appL_ok (by simp [s2b_len]; omega) (by simp [s2b_len]; omega), bind_some']
        have e : [34] ++ s2b (qs s) ++ [34] = s2b ([34] ++ qs s ++ [34]) := by simp [s2b]
        rw [e, b2s_s2b]
        rfl
  · rw [R18_Quote, rUtf s (by omega)]
    cases hu : utfF s.length s with
    | false => rfl
    | true =>
      simp only [bind_some', Bool.not_true, Bool.false_eq_true, if_false]
      rw [show (0 : Int) = ((0 : Nat) : Int) from rfl, r]
      cases ha : s.any (· == 13) with
      | true => rfl
      | false =>
        simp only [Bool.false_eq_true, if_false, bind_some', and_self, if_true]
        rw [need_ok (by simp; omega)]
        rfl
  · split
    · simp; omega
    · simp
end Go.Proofs.YtebkhehjfkmdiaaDoor
end

section
namespace Go.Proofs.YtebkhehjfkmdiaaDoor
open Go.RowKit

def blB (c : UInt8) : Bool := c.toNat == 32 || (c.toNat == 9 || (c.toNat == 10 || c.toNat == 13))
/-- Do two bytes stand at the head? -/
def two (a b : UInt8) : List UInt8 → Bool
  | c :: d :: _ => c == a && d == b
  | _ => false
/-- Which sign it is. -/
def sgP (c : UInt8) : Option Int := if c = 46 then some 7 else if c = 40 then some 8 else if c = 41 then some 9 else if c = 44 then some 10 else if c = 61 then some 11 else none
theorem contI {c : UInt8} (h : contB c = true) : 128 ≤ c.toNat ∧ c.toNat < 192 := by simpa [contB] using h
/-- A rune of more than one byte stands alone. -/
theorem nextC_local (c : UInt8) (t : List UInt8) (hc : 128 ≤ c.toNat) (hg : ¬ ((nextC c t).1 = 65533 ∧ (nextC c t).2 = 1)) : ∃ w rest, c :: t = w ++ rest ∧ (nextC c t).2 = w.length ∧ 2 ≤ w.length ∧ (∀ b ∈ w, 128 ≤ b.toNat) ∧ 128 ≤ (nextC c t).1 ∧ ∀ r, nextP (w ++ r) = nextC c t := by
  have hn : ¬ c.toNat < 128 := by omega
  by_cases h2 : 192 ≤ c.toNat ∧ c.toNat < 224
  · cases t with
    | nil => exfalso; apply hg; unfold nextC; rw [if_neg hn, if_pos h2]; exact ⟨rfl, rfl⟩
    | cons c1 t =>
      by_cases hk : contB c1 = true ∧ 128 ≤ (c.toNat - 192) * 64 + (c1.toNat - 128)
      · have e : ∀ r, nextC c (c1 :: r) = ((c.toNat - 192) * 64 + (c1.toNat - 128), 2) := fun r => by unfold nextC; rw [if_neg hn, if_pos h2]; simp only; rw [if_pos hk]
        have := contI hk.1
        refine ⟨[c, c1], t, rfl, by rw [e]; rfl, by simp, ?_, by rw [e]; exact hk.2, fun r => (e r).trans (e t).symm⟩
        intro b hb
        simp at hb
        rcases hb with rfl | rfl <;> omega
      · exfalso; apply hg; unfold nextC; rw [if_neg hn, if_pos h2]; simp only; rw [if_neg hk]; exact ⟨rfl, rfl⟩
  by_cases h3 : 224 ≤ c.toNat ∧ c.toNat < 240
  · rcases t with _ | ⟨c1, _ | ⟨c2, t⟩⟩
    · exfalso; apply hg; unfold nextC; rw [if_neg hn, if_neg h2, if_pos h3]; exact ⟨rfl, rfl⟩
    · exfalso; apply hg; unfold nextC; rw [if_neg hn, if_neg h2, if_pos h3]; exact ⟨rfl, rfl⟩
    · by_cases hk : contB c1 = true ∧ contB c2 = true ∧ 2048 ≤ ((c.toNat - 224) * 64 + (c1.toNat - 128)) * 64 + (c2.toNat - 128) ∧ runeB (((c.toNat - 224) * 64 + (c1.toNat - 128)) * 64 + (c2.toNat - 128)) = true
      · have e : ∀ r, nextC c (c1 :: c2 :: r) = (((c.toNat - 224) * 64 + (c1.toNat - 128)) * 64 + (c2.toNat - 128), 3) := fun r => by unfold nextC; rw [if_neg hn, if_neg h2, if_pos h3]; simp only; rw [if_pos hk]
        have := contI hk.1
        have := contI hk.2.1
        refine ⟨[c, c1, c2], t, rfl, by rw [e]; rfl, by simp, ?_, by rw [e]; have := hk.2.2.1; simp only; omega, fun r => (e r).trans (e t).symm⟩
        intro b hb
        simp at hb
        rcases hb with rfl | rfl | rfl <;> omega
      · exfalso; apply hg; unfold nextC; rw [if_neg hn, if_neg h2, if_pos h3]; simp only; rw [if_neg hk]; exact ⟨rfl, rfl⟩
  by_cases h4 : 240 ≤ c.toNat ∧ c.toNat < 248
  · rcases t with _ | ⟨c1, _ | ⟨c2, _ | ⟨c3, t⟩⟩⟩
    · exfalso; apply hg; unfold nextC; rw [if_neg hn, if_neg h2, if_neg h3, if_pos h4]; exact ⟨rfl, rfl⟩
    · exfalso; apply hg; unfold nextC; rw [if_neg hn, if_neg h2, if_neg h3, if_pos h4]; exact ⟨rfl, rfl⟩
    · exfalso; apply hg; unfold nextC; rw [if_neg hn, if_neg h2, if_neg h3, if_pos h4]; exact ⟨rfl, rfl⟩
    · by_cases hk : contB c1 = true ∧ contB c2 = true ∧ contB c3 = true ∧ 65536 ≤ (((c.toNat - 240) * 64 + (c1.toNat - 128)) * 64 + (c2.toNat - 128)) * 64 + (c3.toNat - 128) ∧ runeB ((((c.toNat - 240) * 64 + (c1.toNat - 128)) * 64 + (c2.toNat - 128)) * 64 + (c3.toNat - 128)) = true
      · have e : ∀ r, nextC c (c1 :: c2 :: c3 :: r) = ((((c.toNat - 240) * 64 + (c1.toNat - 128)) * 64 + (c2.toNat - 128)) * 64 + (c3.toNat - 128), 4) := fun r => by unfold nextC; rw [if_neg hn, if_neg h2, if_neg h3, if_pos h4]; simp only; rw [if_pos hk]
        have := contI hk.1
        have := contI hk.2.1
        have := contI hk.2.2.1
        refine ⟨[c, c1, c2, c3], t, rfl, by rw [e]; rfl, by simp, ?_, by rw [e]; have := hk.2.2.2.1; simp only; omega, fun r => (e r).trans (e t).symm⟩
        intro b hb
        simp at hb
        rcases hb with rfl | rfl | rfl | rfl <;> omega
      · exfalso; apply hg; unfold nextC; rw [if_neg hn, if_neg h2, if_neg h3, if_pos h4]; simp only; rw [if_neg hk]; exact ⟨rfl, rfl⟩
  · exfalso; apply hg; unfold nextC; rw [if_neg hn, if_neg h2, if_neg h3, if_neg h4]; exact ⟨rfl, rfl⟩
theorem qs_app (a b : List UInt8) : qs (a ++ b) = qs a ++ qs b := by simp [qs]
theorem qs_high : ∀ w : List UInt8, (∀ b ∈ w, 128 ≤ b.toNat) → qs w = w
  | [], _ => rfl
  | c :: t, h => by
    have hc := h c (List.mem_cons_self ..)
    have e : qb c = [c] := by
      unfold qb
      have ne : ∀ d : UInt8, d.toNat < 128 → c ≠ d := fun d hd e => by subst e; omega
      rw [if_neg (ne 10 (by decide)), if_neg (ne 9 (by decide)), if_neg (by intro q; rcases q with q | q; exact ne 34 (by decide) q; exact ne 92 (by decide) q)]
    have ih := qs_high t fun b hb => h b (List.mem_cons_of_mem _ hb)
    show qb c ++ qs t = _
    rw [e, ih]; rfl
end Go.Proofs.YtebkhehjfkmdiaaDoor
end

section
namespace Go.Proofs.YtebkhehjfkmdiaaDoor
open Go.RowKit

def blN (l : List UInt8) : Nat := (l.takeWhile blB).length
theorem blN_cons (c : UInt8) (r : List UInt8) : blN (c :: r) = if blB c then 1 + blN r else 0 := by
  unfold blN
  rw [List.takeWhile_cons]
  split
  · rw [List.length_cons]; omega
  · rfl
theorem blN_le : ∀ l : List UInt8, blN l ≤ l.length
  | [] => Nat.le_refl _
  | c :: r => by
    have := blN_le r
    rw [blN_cons, List.length_cons]; split <;> omega
theorem blC (c : UInt8) : ([32, 9, 10, 13] : List UInt8).contains c = blB c := by
  have e : ∀ d : UInt8, (c == d) = (c.toNat == d.toNat) := fun d => by
    rw [Bool.eq_iff_iff, beq_iff_eq, beq_iff_eq]
    exact ⟨fun h => by rw [h], fun h => UInt8.toNat_inj.1 h⟩
  rw [List.contains_cons, List.contains_cons, List.contains_cons, List.contains_cons, List.contains_nil, e, e, e, e, Bool.or_false]
  rfl
theorem trimN : ∀ l : List UInt8, (Lib.trimLeftS l [32, 9, 10, 13]).length = l.length - blN l
  | [] => rfl
  | c :: r => by
    have ih := trimN r
    have hle := blN_le r
    unfold Lib.trimLeftS at ih ⊢
    rw [List.dropWhile_cons, blC, blN_cons, List.length_cons]
    split
    · rw [ih]; omega
    · rw [List.length_cons]; omega
theorem lBl (s : List UInt8) (k : Nat) (hk : k ≤ s.length) (hs : s.length ≤ 65536) (toks : List api_Token) : lex_machine_blanks_2 s k toks = some ((k + blN (s.drop k) : Nat) : Int) := by
  have h := trimN (s.drop k)
  have hle := blN_le (s.drop k)
  rw [List.length_drop] at h hle
  rw [lex_machine_blanks_2, cutL_ok (by omega) (by omega) (by omega), bind_some', strings_TrimLeft, need_ok (by decide), bind_some', need_ok (by decide), bind_some', bind_some']
  have e : (s.take (s.length : Int).toNat).drop ((k : Int)).toNat = s.drop k := by simp
  rw [e, h, wr_in (by omega) (by omega)]
  congr 1
  omega

def fnd (a b : UInt8) : List UInt8 → Nat
  | [] => 0
  | c :: r => if two a b (c :: r) then 0 else 1 + fnd a b r
theorem fnd_le (a b : UInt8) : ∀ l : List UInt8, fnd a b l ≤ l.length
  | [] => Nat.le_refl _
  | c :: r => by
    have := fnd_le a b r
    rw [fnd, List.length_cons]; split <;> omega
theorem two_len {a b : UInt8} {l : List UInt8} (h : two a b l = true) : 2 ≤ l.length := by
  match l, h with
  | c :: d :: r, _ => simp
theorem fnd_at (a b : UInt8) : ∀ l : List UInt8, fnd a b l < l.length → two a b (l.drop (fnd a b l)) = true
  | [], h => by simp at h
  | c :: r, h => by
    rw [fnd] at h ⊢
    by_cases ht : two a b (c :: r) = true
    · rw [if_pos ht]; exact ht
    · rw [if_neg ht, List.length_cons] at h
      rw [if_neg ht, Nat.add_comm, List.drop_succ_cons]
      exact fnd_at a b r (by omega)
theorem preTwo (a b : UInt8) (l : List UInt8) : [a, b].isPrefixOf l = two a b l := by
  match l with
  | [] => rfl
  | [c] => simp [List.isPrefixOf, two]
  | c :: d :: r =>
    show (a == c && (b == d && true)) = (c == a && d == b)
    rw [Bool.and_true, Bool.beq_comm (a := a), Bool.beq_comm (a := b)]
theorem lIdx (a b : UInt8) : ∀ l : List UInt8, Lib.index l [a, b] = if fnd a b l < l.length then (fnd a b l : Int) else -1
  | [] => rfl
  | c :: r => by
    have ih := lIdx a b r
    have hle := fnd_le a b r
    unfold Lib.index
    rw [preTwo, ih, fnd, List.length_cons]
    by_cases ht : two a b (c :: r) = true
    · rw [if_pos ht, if_pos ht, if_pos (by omega)]; rfl
    · rw [if_neg ht, if_neg ht]
      by_cases hf : fnd a b r < r.length
      · have h1 : (((fnd a b r : Nat) : Int) == -1) = false := by rw [beq_eq_false_iff_ne]; omega
        rw [if_pos hf, h1, if_neg (show ¬ (false = true) by decide), if_pos (show 1 + fnd a b r < r.length + 1 by omega)]
        omega
      · rw [if_neg hf, if_pos (show ((-1 : Int) == -1) = true from rfl), if_neg (show ¬ 1 + fnd a b r < r.length + 1 by omega)]
def oneB (a : UInt8) : List UInt8 → Bool
  | c :: _ => c == a
  | [] => false
theorem lBeg (s p : List UInt8) (k : Nat) (hk : k ≤ s.length) (hs : s.length ≤ 65536) (hp : p.length ≤ 65536) : octet_Begins s p k = some ((s.drop k).take p.length == p && decide (p.length ≤ s.length - k)) := by
  have e : (s.take (s.length : Int).toNat).drop ((k : Int)).toNat = s.drop k := by simp
  rw [octet_Begins, decide_eq_true (by omega), if_pos rfl, decide_eq_true (by omega), if_pos rfl, cutL_ok (by omega) (by omega) (by omega), bind_some', e, strings_HasPrefix, internal_stringslite_HasPrefix]
  by_cases h : p.length ≤ s.length - k
  · rw [decide_eq_true (by rw [List.length_drop]; omega), if_pos rfl, cutL_ok (by omega) (by omega) (by rw [List.length_drop]; omega), decide_eq_true h]
    simp
  · rw [decide_eq_false (by rw [List.length_drop]; omega), if_neg (by decide), decide_eq_false h, Bool.and_false]
    rfl
theorem lBeg2 (a b : UInt8) (s : List UInt8) (k : Nat) (hk : k ≤ s.length) (hs : s.length ≤ 65536) : octet_Begins s [a, b] k = some (two a b (s.drop k)) := by
  rw [lBeg s [a, b] k hk hs (by simp)]
  have hl : (s.drop k).length = s.length - k := List.length_drop
  generalize s.drop k = l at hl
  rw [← hl]
  match l with
  | [] => rfl
  | [c] => simp [two]
  | c :: d :: r =>
    congr 1
    rw [decide_eq_true (by simp), Bool.and_true]
    show ([c, d] == [a, b]) = _
    rw [List.cons_beq_cons, List.cons_beq_cons]
    show (c == a && (d == b && true)) = _
    rw [Bool.and_true]; rfl
theorem lBeg1 (a : UInt8) (s : List UInt8) (k : Nat) (hk : k ≤ s.length) (hs : s.length ≤ 65536) : octet_Begins s [a] k = some (oneB a (s.drop k)) := by
  rw [lBeg s [a] k hk hs (by simp)]
  have hl : (s.drop k).length = s.length - k := List.length_drop
  generalize s.drop k = l at hl
  rw [← hl]
  match l with
  | [] => rfl
  | c :: r =>
    congr 1
    rw [decide_eq_true (by simp), Bool.and_true]
    show ([c] == [a]) = _
    rw [List.cons_beq_cons]
    show (c == a && true) = _
    rw [Bool.and_true]; rfl

def escP (c : UInt8) : Option UInt8 := if c = 110 then some 10 else if c = 116 then some 9 else if c = 34 ∨ c = 92 then some c else none
abbrev badR (l : List UInt8) : Prop := (nextP l).1 = 10 ∨ (nextP l).1 = 13 ∨ ((nextP l).1 = 65533 ∧ (nextP l).2 = 1)
/-- What a letter behind a backslash says, and what follows. -/
def escR (f : List UInt8 → Option (List UInt8 × Nat)) : List UInt8 → Option (List UInt8 × Nat)
  | [] => none
  | d :: r => match escP d with
    | some e => (f r).map fun q => (e :: q.1, q.2 + 2)
    | none => none
/-- What a text says behind its opening quote, and how far it goes. -/
def quoP : Nat → List UInt8 → Option (List UInt8 × Nat)
  | 0, _ => none
  | _ + 1, [] => none
  | n + 1, c :: r =>
    if c = 34 then some ([], 1)
    else if c = 92 then escR (quoP n) r
    else if badR (c :: r) then none
    else (quoP n ((c :: r).drop (nextP (c :: r)).2)).map fun q => ((c :: r).take (nextP (c :: r)).2 ++ q.1, (nextP (c :: r)).2 + q.2)
theorem quoP_cons (n : Nat) (c : UInt8) (r : List UInt8) : quoP (n + 1) (c :: r) = if c = 34 then some ([], 1) else if c = 92 then escR (quoP n) r else if badR (c :: r) then none
    else (quoP n ((c :: r).drop (nextP (c :: r)).2)).map fun q => ((c :: r).take (nextP (c :: r)).2 ++ q.1, (nextP (c :: r)).2 + q.2) := rfl
theorem quoP_le : ∀ (n : Nat) (l : List UInt8) (q : List UInt8 × Nat), quoP n l = some q → 1 ≤ q.2 ∧ q.2 ≤ l.length ∧ q.1.length ≤ l.length
  | 0, l, q, h => by simp [quoP] at h
  | n + 1, [], q, h => by simp [quoP] at h
  | n + 1, c :: r, q, h => by
    rw [quoP_cons] at h
    split at h
    · cases h; simp
    · split at h
      · cases r with
        | nil => cases h
        | cons d r' =>
          rw [escR] at h
          split at h
          · obtain ⟨q', h1, rfl⟩ := Option.map_eq_some_iff.1 h
            have := quoP_le n r' q' h1
            simp only [List.length_cons] at this ⊢
            omega
          · cases h
      · split at h
        · cases h
        · obtain ⟨q', h1, rfl⟩ := Option.map_eq_some_iff.1 h
          obtain ⟨z1, z2⟩ := nextP_size (c :: r) (List.cons_ne_nil _ _)
          have := quoP_le n _ q' h1
          rw [List.length_drop] at this
          simp only [List.length_append, List.length_take]
          omega
theorem badT (l : List UInt8) : (if ((((nextP l).1 : Nat) : Int) == 10) = true then some true else if ((((nextP l).1 : Nat) : Int) == 13) = true then some true else if ((((nextP l).1 : Nat) : Int) == 65533) = true then some ((((nextP l).2 : Nat) : Int) == 1) else some false : Option Bool) = some (decide (badR l)) := by
  have h := badI (nextP l)
  rw [h]
  have a := eqN (nextP l).1 10
  have b := eqN (nextP l).1 13
  rw [show (10 : Int) = ((10 : Nat) : Int) from rfl, show (13 : Int) = ((13 : Nat) : Int) from rfl, a, b]
  unfold badR
  by_cases h1 : (nextP l).1 = 10
  · rw [beq_iff_eq.2 h1, if_pos rfl, decide_eq_true (.inl h1)]
  · rw [beq_eq_false_iff_ne.2 h1, if_neg (by decide)]
    by_cases h2 : (nextP l).1 = 13
    · rw [beq_iff_eq.2 h2, if_pos rfl, decide_eq_true (.inr (.inl h2))]
    · rw [beq_eq_false_iff_ne.2 h2, if_neg (by decide)]
      by_cases h3 : (nextP l).1 = 65533 ∧ (nextP l).2 = 1
      · rw [decide_eq_true h3, decide_eq_true (.inr (.inr h3))]
      · rw [decide_eq_false h3, decide_eq_false (fun h => by rcases h with h | h | h; exact h1 h; exact h2 h; exact h3 h)]
theorem cutN {s : List UInt8} {k m : Nat} (h : k + m ≤ s.length) : cutL s k ((k + m : Nat) : Int) = some ((s.drop k).take m) := by
  rw [cutL_ok (by omega) (by omega) (by omega), Int.toNat_natCast, Int.toNat_natCast, List.drop_take, Nat.add_sub_cancel_left]
theorem r92 (c : UInt8) (r : List UInt8) : (((nextP (c :: r)).1 : Nat) : Int) == 92 ↔ c = 92 := by
  rw [beq_iff_eq]
  constructor
  · intro h
    by_cases hc : c.toNat < 128
    · have e : nextP (c :: r) = (c.toNat, 1) := by rw [nextP]; unfold nextC; rw [if_pos hc]
      rw [e] at h
      exact UInt8.toNat_inj.1 (show c.toNat = 92 from Int.ofNat.inj h)
    · exfalso
      by_cases hb : (nextC c r).1 = 65533 ∧ (nextC c r).2 = 1
      · have : (nextP (c :: r)).1 = 65533 := hb.1
        omega
      · obtain ⟨w, rest, -, -, -, -, hv, -⟩ := nextC_local c r (by omega) hb
        have : 128 ≤ (nextP (c :: r)).1 := hv
        omega
  · rintro rfl; rfl
theorem escL (c : UInt8) : lex_escaped (c.toNat : Int) = some (match escP c with | some e => ((e.toNat : Int), true) | none => ((c.toNat : Int), false)) := by
  have a : ((c.toNat : Int) == 110) = decide (c = 110) := eqC c 110 (by omega)
  have b : ((c.toNat : Int) == 116) = decide (c = 116) := eqC c 116 (by omega)
  have d : ((c.toNat : Int) == 34) = decide (c = 34) := eqC c 34 (by omega)
  have e : ((c.toNat : Int) == 92) = decide (c = 92) := eqC c 92 (by omega)
  rw [lex_escaped, a, b, d, e]
  unfold escP
  by_cases h1 : c = 110
  · subst h1; rfl
  by_cases h2 : c = 116
  · subst h2; rfl
  rw [decide_eq_false h1, decide_eq_false h2, if_neg h1, if_neg h2]
  by_cases h3 : c = 34
  · subst h3; rfl
  by_cases h4 : c = 92
  · subst h4; rfl
  rw [decide_eq_false h3, decide_eq_false h4, if_neg (show ¬ (c = 34 ∨ c = 92) by rintro (h | h); exact h3 h; exact h4 h)]
  rfl
/-- The program reads a text behind its opening quote. -/
theorem lQuoL (s : List UInt8) (hs : s.length ≤ 65536) (at0 : Int) (toks : List api_Token) (fl : Bool) : ∀ (n k : Nat) (acc : List UInt8), k ≤ s.length → s.length - k < n → acc.length ≤ k →
    ∃ o, lex_machine_text_L1 s at0 toks k fl (s2b acc) = some o ∧ (match quoP n (s.drop k) with
      | some q => ∃ f, o = .inl (((k + q.2 - 1 : Nat) : Int), f, s2b (acc ++ q.1))
      | none => (∃ y, o = .inr y) ∨ ∃ f b, o = .inl ((s.length : Int), f, b)) := by
  intro n
  induction n generalizing fl with
  | zero => intro k acc h1 h2; omega
  | succ n ih =>
    intro k acc h1 h2 h3
    rcases Nat.lt_or_ge k s.length with hk | hk
    · have hne : s.drop k ≠ [] := by rw [dropE hk]; exact List.cons_ne_nil _ _
      obtain ⟨z1, z2⟩ := nextP_size _ hne
      rw [List.length_drop] at z2
      have e34 : ((s[k].toNat : Int) != 34) = !decide (s[k] = 34) := by
        have : ((s[k].toNat : Int) == 34) = decide (s[k] = 34) := eqC s[k] 34 (by omega)
        rw [bne, this]
      have ew : wr ((k : Int) + ((nextP (s.drop k)).2 : Int)) = ((k + (nextP (s.drop k)).2 : Nat) : Int) := by rw [wr_in (by omega) (by omega)]; rfl
      have ew2 : wr ((k : Int) + 2) = ((k + 2 : Nat) : Int) := by rw [wr_in (by omega) (by omega)]; rfl
      rw [lex_machine_text_L1, ltI, decide_eq_true hk, if_pos rfl, idx_nat, getE hk, bind_some', bind_some', e34]
      by_cases h34 : s[k] = 34
      · rw [decide_eq_true h34, Bool.not_true, if_neg (by decide)]
        refine ⟨_, rfl, ?_⟩
        rw [dropE hk, quoP_cons, if_pos h34]
        exact ⟨fl, by simp⟩
      · rw [decide_eq_false h34, Bool.not_false, if_pos rfl, tNext s k hk (by omega), bind_some']
        have hr92 := r92 s[k] (s.drop (k + 1))
        rw [← dropE hk] at hr92
        by_cases h92 : s[k] = 92
        · rw [if_pos (hr92.2 h92), wr_succ (by omega)]
          rcases Nat.lt_or_ge (k + 1) s.length with hk1 | hk1
          · have en : (((k + 1 : Nat) : Int) == (s.length : Int)) = false := beq_eq_false_iff_ne.2 (by omega)
            have hd : s.drop k = 92 :: s[k + 1] :: s.drop (k + 2) := by rw [dropE hk, dropE hk1, h92]
            rw [en, if_neg (by decide), idx_nat, getE hk1, bind_some', escL, bind_some', hd, quoP_cons, if_neg (show ¬ (92 : UInt8) = 34 by decide), if_pos rfl, escR]
            cases hE : escP s[k + 1] with
            | none =>
              simp only [Bool.not_false, if_true]
              exact ⟨_, rfl, .inl ⟨_, rfl⟩⟩
            | some e =>
              simp only [Bool.not_true, Bool.false_eq_true, if_false]
              have hwb : strings_Builder_WriteByte_2 (e.toNat : Int) fl (s2b acc) = some ((), true, s2b (acc ++ [e])) := by
                rw [strings_Builder_WriteByte_2, strings_Builder_copyCheck_2, bind_some', appL_ok (by rw [s2b_len]; simp; omega) (by rw [s2b_len]; simp; omega), bind_some', s2b_app]
                rfl
              rw [hwb, bind_some', ew2]
              obtain ⟨o, o1, o2⟩ := ih true (k + 2) (acc ++ [e]) (by omega) (by omega) (by simp; omega)
              refine ⟨o, o1, ?_⟩
              cases hq : quoP n (s.drop (k + 2)) with
              | none => rw [hq] at o2; exact o2
              | some q =>
                rw [hq] at o2
                obtain ⟨f, o2⟩ := o2
                obtain ⟨q1, -⟩ := quoP_le n _ q hq
                refine ⟨f, ?_⟩
                rw [o2]
                simp only [Option.map_some, List.append_assoc, List.singleton_append]
                congr 3
                omega
          · have en : (((k + 1 : Nat) : Int) == (s.length : Int)) = true := beq_iff_eq.2 (by omega)
            rw [en, if_pos rfl]
            refine ⟨_, rfl, ?_⟩
            have hd : s.drop k = [92] := by rw [dropE hk, h92, List.drop_eq_nil_of_le (by omega)]
            rw [hd, quoP_cons, if_neg (show ¬ (92 : UInt8) = 34 by decide), if_pos rfl]
            exact .inl ⟨_, rfl⟩
        · rw [if_neg (fun h => h92 (hr92.1 h))]
          simp only
          rw [badT (s.drop k), bind_some']
          have hq : quoP (n + 1) (s.drop k) = if badR (s.drop k) then none else (quoP n ((s.drop k).drop (nextP (s.drop k)).2)).map fun q => ((s.drop k).take (nextP (s.drop k)).2 ++ q.1, (nextP (s.drop k)).2 + q.2) := by
            generalize hg : s.drop k = l
            rw [dropE hk] at hg
            subst hg
            rw [quoP_cons, if_neg h34, if_neg h92]
          rw [hq]
          by_cases hb : badR (s.drop k)
          · rw [decide_eq_true hb, if_pos rfl, if_pos hb]
            exact ⟨_, rfl, .inl ⟨_, rfl⟩⟩
          · rw [decide_eq_false hb, if_neg (by decide), if_neg hb, ew, cutN (by omega), bind_some']
            have hws : strings_Builder_WriteString_2 ((s.drop k).take (nextP (s.drop k)).2) fl (s2b acc) = some (((((s.drop k).take (nextP (s.drop k)).2).length : Nat) : Int), (), true, s2b (acc ++ (s.drop k).take (nextP (s.drop k)).2)) := by
              have hl : ((s.drop k).take (nextP (s.drop k)).2).length ≤ s.length - k := by rw [List.length_take, List.length_drop]; omega
              rw [strings_Builder_WriteString_2, strings_Builder_copyCheck_2, bind_some', appL_ok (by rw [s2b_len, s2b_len]; omega) (by rw [s2b_len, s2b_len]; omega), bind_some', s2b_app]
            rw [hws, bind_some', List.drop_drop]
            obtain ⟨o, o1, o2⟩ := ih true (k + (nextP (s.drop k)).2) (acc ++ (s.drop k).take (nextP (s.drop k)).2) (by omega) (by omega) (by rw [List.length_append, List.length_take]; omega)
            refine ⟨o, o1, ?_⟩
            cases hq : quoP n (s.drop (k + (nextP (s.drop k)).2)) with
            | none => rw [hq] at o2; exact o2
            | some q =>
              rw [hq] at o2
              obtain ⟨f, o2⟩ := o2
              obtain ⟨q1, -⟩ := quoP_le n _ q hq
              refine ⟨f, ?_⟩
              rw [o2]
              simp only [List.append_assoc]
              congr 3
              omega
    · rw [lex_machine_text_L1, ltI, decide_eq_false (by omega), if_neg (by decide), bind_some', if_neg (by decide), List.drop_eq_nil_of_le hk, quoP]
      refine ⟨_, rfl, .inr ⟨fl, s2b acc, ?_⟩⟩
      have : k = s.length := by omega
      rw [this]
end Go.Proofs.YtebkhehjfkmdiaaDoor
end

section
namespace Go.Proofs.YtebkhehjfkmdiaaDoor
open Go.RowKit

def run (p : UInt8 → Bool) (l : List UInt8) : Nat := (l.takeWhile p).length
theorem run_cons (p : UInt8 → Bool) (c : UInt8) (r : List UInt8) : run p (c :: r) = if p c then 1 + run p r else 0 := by
  unfold run
  rw [List.takeWhile_cons]
  split
  · rw [List.length_cons]; omega
  · rfl
theorem run_le (p : UInt8 → Bool) : ∀ l : List UInt8, run p l ≤ l.length
  | [] => Nat.le_refl _
  | c :: r => by
    have := run_le p r
    rw [run_cons, List.length_cons]; split <;> omega
theorem lRunD (s : List UInt8) (hs : s.length ≤ 65536) (a : Int) (toks : List api_Token) : ∀ k, k ≤ s.length → lex_machine_run_lex_digit_L1 s a toks k = some ((k + run digB (s.drop k) : Nat) : Int) := by
  refine upto ?_ fun k hk ih => ?_
  · rw [lex_machine_run_lex_digit_L1, ltI, decide_eq_false (by omega), if_neg (by decide), bind_some', if_neg (by decide), List.drop_length]; rfl
  · rw [lex_machine_run_lex_digit_L1, ltI, decide_eq_true hk, if_pos rfl, wr_succ (by omega), idx_nat, getE hk, bind_some', lDigit, bind_some', bind_some', ih, dropE hk, run_cons]
    cases digB s[k] with
    | true => rw [if_pos rfl, if_pos rfl, Nat.add_assoc]
    | false => rfl
theorem lRunL (s : List UInt8) (hs : s.length ≤ 65536) (a : Int) (toks : List api_Token) : ∀ k, k ≤ s.length → lex_machine_run_lex_letter_L1 s a toks k = some ((k + run letB (s.drop k) : Nat) : Int) := by
  refine upto ?_ fun k hk ih => ?_
  · rw [lex_machine_run_lex_letter_L1, ltI, decide_eq_false (by omega), if_neg (by decide), bind_some', if_neg (by decide), List.drop_length]; rfl
  · rw [lex_machine_run_lex_letter_L1, ltI, decide_eq_true hk, if_pos rfl, wr_succ (by omega), idx_nat, getE hk, bind_some', lLetter, bind_some', bind_some', ih, dropE hk, run_cons]
    cases letB s[k] with
    | true => rw [if_pos rfl, if_pos rfl, Nat.add_assoc]
    | false => rfl
/-- Its kind, its text, its number, its length. -/
def one18 : List UInt8 → Option (Int × List UInt8 × Int × Nat)
  | [] => none
  | c :: r => match sgP c with
    | some j => some (j, [], 0, 1)
    | none =>
      if c = 34 then (quoP (r.length + 1) r).map fun q => (5, q.1, 0, 1 + q.2)
      else if smallB c then (if wordP ((c :: r).take (1 + run letB r)) then some (4, (c :: r).take (1 + run letB r), 0, 1 + run letB r) else none)
      else if c = 45 ∨ digB c = true then (if (numP ((c :: r).take (1 + run digB r))).2 then some (6, [], (numP ((c :: r).take (1 + run digB r))).1, 1 + run digB r) else none)
      else none
theorem one18_cons (c : UInt8) (r : List UInt8) : one18 (c :: r) = match sgP c with
    | some j => some (j, [], 0, 1)
    | none =>
      if c = 34 then (quoP (r.length + 1) r).map fun q => (5, q.1, 0, 1 + q.2)
      else if smallB c then (if wordP ((c :: r).take (1 + run letB r)) then some (4, (c :: r).take (1 + run letB r), 0, 1 + run letB r) else none)
      else if c = 45 ∨ digB c = true then (if (numP ((c :: r).take (1 + run digB r))).2 then some (6, [], (numP ((c :: r).take (1 + run digB r))).1, 1 + run digB r) else none)
      else none := rfl
theorem one18_len {l : List UInt8} {o : Int × List UInt8 × Int × Nat} (h : one18 l = some o) : 1 ≤ o.2.2.2 ∧ o.2.2.2 ≤ l.length := by
  cases l with
  | nil => cases h
  | cons c r =>
    have a := run_le letB r
    have b := run_le digB r
    rw [one18_cons] at h
    split at h
    · cases h; simp
    · split at h
      · obtain ⟨q, h1, rfl⟩ := Option.map_eq_some_iff.1 h
        have := quoP_le _ _ _ h1
        simp only [List.length_cons]; omega
      · split at h
        · split at h
          · cases h; simp only [List.length_cons]; omega
          · cases h
        · split at h
          · split at h
            · cases h; simp only [List.length_cons]; omega
            · cases h
          · cases h
def putT (j : Int) (t : List UInt8) (n : Int) (k m : Nat) : api_Token := ⟨j, t, n, (k : Int), ((k + m : Nat) : Int)⟩
theorem put2 {j : Int} {t : List UInt8} {n : Int} {m : Nat} {s : List UInt8} {k : Nat} {toks : List api_Token} (hk : k ≤ 200000) (hm : m ≤ 200000) (ht : toks.length ≤ 200000) : lex_machine_put_2 j t n (m : Int) s (k : Int) toks = some (((k + m : Nat) : Int), toks ++ [putT j t n k m]) := by
  have ew : wr ((k : Int) + (m : Int)) = ((k + m : Nat) : Int) := by rw [wr_in (by omega) (by omega)]; rfl
  rw [lex_machine_put_2, ew, appL_ok (by simp; omega) (by simp; omega), bind_some']
  rfl
theorem lSign (s : List UInt8) (k : Nat) (hk : k < s.length) (hs : s.length ≤ 65536) (toks : List api_Token) (ht : toks.length ≤ 200000) : lex_machine_sign s k toks = some (match sgP s[k] with | some j => (true, ((k + 1 : Nat) : Int), toks ++ [putT j [] 0 k 1]) | none => (false, (k : Int), toks)) := by
  have step : ∀ (i : Nat) (hi : i < 5), lex_machine_sign_L1 s k toks (i : Int) = if s[k] = ([46, 40, 41, 44, 61] : List UInt8)[i] then some (.inr (((k + 1 : Nat) : Int), toks ++ [putT ((7 + i : Nat) : Int) [] 0 k 1])) else lex_machine_sign_L1 s k toks ((i + 1 : Nat) : Int) := fun i hi => by
    have hp : ∀ j, lex_machine_put_2 j [] 0 1 s k toks = some (((k + 1 : Nat) : Int), toks ++ [putT j [] 0 k 1]) := fun j => put2 (m := 1) (by omega) (by omega) ht
    have hd : decide ((i : Int) < 5) = true := decide_eq_true (by omega)
    rw [lex_machine_sign_L1, hd, if_pos rfl, wr_succ (by omega), idx_nat, idx_nat, getE hk]
    obtain rfl | rfl | rfl | rfl | rfl : i = 0 ∨ i = 1 ∨ i = 2 ∨ i = 3 ∨ i = 4 := by omega
    all_goals
      simp only [List.getElem?_cons_zero, List.getElem?_cons_succ, bind_some', hp]
      first
        | rw [show ((s[k].toNat : Int) == 46) = decide (s[k] = 46) from eqC _ 46 (by omega)]
        | rw [show ((s[k].toNat : Int) == 40) = decide (s[k] = 40) from eqC _ 40 (by omega)]
        | rw [show ((s[k].toNat : Int) == 41) = decide (s[k] = 41) from eqC _ 41 (by omega)]
        | rw [show ((s[k].toNat : Int) == 44) = decide (s[k] = 44) from eqC _ 44 (by omega)]
        | rw [show ((s[k].toNat : Int) == 61) = decide (s[k] = 61) from eqC _ 61 (by omega)]
      simp only [decide_eq_true_eq, List.getElem_cons_zero, List.getElem_cons_succ]
      rfl
  have h5 : lex_machine_sign_L1 s k toks ((5 : Nat) : Int) = some (.inl ()) := by rw [lex_machine_sign_L1]; rfl
  rw [lex_machine_sign, show (0 : Int) = ((0 : Nat) : Int) from rfl, step 0 (by omega), step 1 (by omega), step 2 (by omega), step 3 (by omega), step 4 (by omega), h5]
  simp only [List.getElem_cons_zero, List.getElem_cons_succ]
  unfold sgP
  by_cases a : s[k] = 46
  · rw [if_pos a, if_pos a]; rfl
  by_cases b : s[k] = 40
  · rw [if_neg a, if_neg a, if_pos b, if_pos b]; rfl
  by_cases d : s[k] = 41
  · rw [if_neg a, if_neg a, if_neg b, if_neg b, if_pos d, if_pos d]; rfl
  by_cases e : s[k] = 44
  · rw [if_neg a, if_neg a, if_neg b, if_neg b, if_neg d, if_neg d, if_pos e, if_pos e]; rfl
  by_cases f : s[k] = 61
  · rw [if_neg a, if_neg a, if_neg b, if_neg b, if_neg d, if_neg d, if_neg e, if_neg e, if_pos f, if_pos f]; rfl
  rw [if_neg a, if_neg a, if_neg b, if_neg b, if_neg d, if_neg d, if_neg e, if_neg e, if_neg f, if_neg f]; rfl
theorem lText (s : List UInt8) (k : Nat) (hk : k < s.length) (hs : s.length ≤ 65536) (toks : List api_Token) (ht : toks.length ≤ 200000) : lex_machine_text s k toks = some (match quoP ((s.drop (k + 1)).length + 1) (s.drop (k + 1)) with | some q => (true, ((k + (1 + q.2) : Nat) : Int), toks ++ [putT 5 q.1 0 k (1 + q.2)]) | none => (false, (k : Int), toks)) := by
  obtain ⟨o, o1, o2⟩ := lQuoL s hs k toks false ((s.drop (k + 1)).length + 1) (k + 1) [] (by omega) (by rw [List.length_drop]; omega) (by simp)
  rw [lex_machine_text, wr_succ (by omega)]
  show (lex_machine_text_L1 s k toks ((k + 1 : Nat) : Int) false (s2b []) >>= _) = _
  rw [o1, bind_some']
  cases hq : quoP ((s.drop (k + 1)).length + 1) (s.drop (k + 1)) with
  | none =>
    rw [hq] at o2
    rcases o2 with ⟨y, rfl⟩ | ⟨f, b, rfl⟩
    · rfl
    · simp only
      rw [decide_eq_true (by omega), if_pos rfl]
  | some q =>
    rw [hq] at o2
    obtain ⟨f, rfl⟩ := o2
    obtain ⟨q1, q2, q3⟩ := quoP_le _ _ q hq
    rw [List.length_drop] at q2
    simp only
    have ew : wr ((wr (((k + 1 + q.2 - 1 : Nat) : Int) + 1)) - (k : Int)) = ((1 + q.2 : Nat) : Int) := by
      rw [wr_succ (by omega), wr_in (by omega) (by omega)]; omega
    rw [decide_eq_false (by omega), if_neg (by decide), strings_Builder_String_2, b2s_s2b, bind_some', ew, put2 (by omega) (by omega) ht, bind_some']
    rfl
theorem lNumber (s : List UInt8) (k : Nat) (hk : k < s.length) (hs : s.length ≤ 65536) (toks : List api_Token) (ht : toks.length ≤ 200000) : lex_machine_number s k toks =
    some (if (numP ((s.drop k).take (1 + run digB (s.drop (k + 1))))).2 = true then (true, ((k + (1 + run digB (s.drop (k + 1))) : Nat) : Int), toks ++ [putT 6 [] (numP ((s.drop k).take (1 + run digB (s.drop (k + 1))))).1 k (1 + run digB (s.drop (k + 1)))]) else (false, (k : Int), toks)) := by
  have hr := run_le digB (s.drop (k + 1))
  rw [List.length_drop] at hr
  have hl : ((s.drop k).take (1 + run digB (s.drop (k + 1)))).length = 1 + run digB (s.drop (k + 1)) := by rw [List.length_take, List.length_drop]; omega
  rw [lex_machine_number, wr_succ (by omega), lex_machine_run_lex_digit, lRunD s hs _ _ _ (by omega), bind_some', show k + 1 + run digB (s.drop (k + 1)) = k + (1 + run digB (s.drop (k + 1))) by omega, cutN (by omega), bind_some', bind_some', octet_Number, need_ok (by rw [hl]; omega), bind_some', bind_some', hl]
  cases hn : (numP ((s.drop k).take (1 + run digB (s.drop (k + 1))))).2 with
  | true => rw [if_pos rfl, put2 (by omega) (by omega) ht, bind_some', if_pos rfl]
  | false => rfl
theorem lWordT (s : List UInt8) (k : Nat) (hk : k < s.length) (hs : s.length ≤ 65536) (toks : List api_Token) (ht : toks.length ≤ 200000) (hc : letB s[k] = true) : lex_machine_word s k toks =
    some (if wordP ((s.drop k).take (1 + run letB (s.drop (k + 1)))) = true then (true, ((k + (1 + run letB (s.drop (k + 1))) : Nat) : Int), toks ++ [putT 4 ((s.drop k).take (1 + run letB (s.drop (k + 1)))) 0 k (1 + run letB (s.drop (k + 1)))]) else (false, (k : Int), toks)) := by
  have hr := run_le letB (s.drop (k + 1))
  rw [List.length_drop] at hr
  have e : run letB (s.drop k) = 1 + run letB (s.drop (k + 1)) := by rw [dropE hk, run_cons, if_pos hc]
  have hl : ((s.drop k).take (1 + run letB (s.drop (k + 1)))).length = 1 + run letB (s.drop (k + 1)) := by rw [List.length_take, List.length_drop]; omega
  rw [lex_machine_word, lex_machine_run_lex_letter, lRunL s hs _ _ _ (by omega), bind_some', e, cutN (by omega), bind_some', bind_some', lWord _ (by rw [hl]; omega), bind_some', hl]
  cases wordP ((s.drop k).take (1 + run letB (s.drop (k + 1)))) with
  | true => rw [Bool.not_true, if_neg (by decide), put2 (by omega) (by omega) ht, bind_some', if_pos rfl]
  | false => rfl
theorem letB_or (c : UInt8) : letB c = true ↔ (smallB c = true ∨ digB c = true ∨ c = 95) := by
  unfold letB
  rw [Bool.or_eq_true, Bool.or_eq_true, beq_iff_eq]
  have : c.toNat = 95 ↔ c = 95 := ⟨fun h => UInt8.toNat_inj.1 h, fun h => by rw [h]; rfl⟩
  rw [this]
theorem sg_none {c : UInt8} (h : c = 34 ∨ smallB c = true ∨ c = 45 ∨ digB c = true ∨ c = 95) : sgP c = none := by
  have ne : ∀ d : UInt8, (d = 46 ∨ d = 40 ∨ d = 41 ∨ d = 44 ∨ d = 61) → c ≠ d := fun d hd e => by
    subst e
    rcases hd with rfl | rfl | rfl | rfl | rfl <;> revert h <;> decide
  have f1 := ne 46 (by decide)
  have f2 := ne 40 (by decide)
  have f3 := ne 41 (by decide)
  have f4 := ne 44 (by decide)
  have f5 := ne 61 (by decide)
  simp [sgP, f1, f2, f3, f4, f5]
theorem word95 {l : List UInt8} {m : Nat} : wordP ((95 :: l).take (1 + m)) = false := by
  rw [Nat.add_comm, List.take_succ_cons]
  unfold wordP
  rw [headB_cons]
  simp
theorem lOne (s : List UInt8) (k : Nat) (hk : k < s.length) (hs : s.length ≤ 65536) (toks : List api_Token) (ht : toks.length ≤ 200000) : lex_machine_token_2 s k toks =
    some (match one18 (s.drop k) with | some o => (true, ((k + o.2.2.2 : Nat) : Int), toks ++ [putT o.1 o.2.1 o.2.2.1 k o.2.2.2]) | none => (false, (k : Int), toks)) := by
  have e34 : ((s[k].toNat : Int) == 34) = decide (s[k] = 34) := eqC s[k] 34 (by omega)
  have e45 : ((s[k].toNat : Int) == 45) = decide (s[k] = 45) := eqC s[k] 45 (by omega)
  rw [lex_machine_token_2, idx_nat, getE hk, bind_some', e34, e45, lDigit, lLetter, lText s k hk hs toks ht, lNumber s k hk hs toks ht, lSign s k hk hs toks ht]
  rw [dropE hk, one18]
  by_cases h34 : s[k] = 34
  · rw [decide_eq_true h34, if_pos rfl, bind_some', sg_none (.inl h34)]
    simp only
    rw [if_pos h34]
    cases quoP ((s.drop (k + 1)).length + 1) (s.drop (k + 1)) <;> rfl
  · rw [decide_eq_false h34, if_neg (by decide)]
    by_cases hn : s[k] = 45 ∨ digB s[k] = true
    · have h1 : (if decide (s[k] = 45) = true then some true else (some (digB s[k]) >>= fun x4 => some x4) : Option Bool) = some true := by
        rcases hn with h | h
        · rw [decide_eq_true h, if_pos rfl]
        · rw [h]; split <;> rfl
      have hsm : ¬ smallB s[k] = true := fun h => by
        have a : 97 ≤ s[k].toNat ∧ s[k].toNat ≤ 122 := by simpa [smallB] using h
        rcases hn with h | h
        · rw [h] at a; exact absurd a.1 (by decide)
        · have : 48 ≤ s[k].toNat ∧ s[k].toNat ≤ 57 := by simpa [digB] using h
          omega
      rw [h1, bind_some', if_pos rfl, bind_some', sg_none (by rcases hn with h | h; exact .inr (.inr (.inl h)); exact .inr (.inr (.inr (.inl h))))]
      simp only
      rw [if_neg h34, if_neg hsm, if_pos hn]
      cases (numP ((s[k] :: s.drop (k + 1)).take (1 + run digB (s.drop (k + 1))))).2 <;> rfl
    · have h1 : (if decide (s[k] = 45) = true then some true else (some (digB s[k]) >>= fun x4 => some x4) : Option Bool) = some false := by
        rw [decide_eq_false (fun h => hn (.inl h)), if_neg (by decide), bind_some', show digB s[k] = false by simpa using fun h => hn (.inr h)]
      rw [h1, bind_some', if_neg (by decide), bind_some']
      by_cases hl : letB s[k] = true
      · rw [hl, if_pos rfl, lWordT s k hk hs toks ht hl, bind_some', dropE hk]
        have hx := (letB_or s[k]).1 hl
        rw [sg_none (by rcases hx with h | h | h; exact .inr (.inl h); exact .inr (.inr (.inr (.inl h))); exact .inr (.inr (.inr (.inr h))))]
        simp only
        rw [if_neg h34]
        by_cases hsm : smallB s[k] = true
        · rw [if_pos hsm]
          cases wordP ((s[k] :: s.drop (k + 1)).take (1 + run letB (s.drop (k + 1)))) <;> rfl
        · have h95 : s[k] = 95 := by
            rcases hx with h | h | h
            · exact absurd h hsm
            · exact absurd (.inr h) hn
            · exact h
          rw [if_neg hsm, if_neg hn, h95, word95]
          rfl
      · rw [show letB s[k] = false by simpa using hl, if_neg (by decide), bind_some']
        cases hg : sgP s[k] with
        | some j => rfl
        | none =>
          simp only
          have hsm : ¬ smallB s[k] = true := fun h => hl ((letB_or _).2 (.inl h))
          rw [if_neg h34, if_neg hsm, if_neg hn]
end Go.Proofs.YtebkhehjfkmdiaaDoor
end
