/- The walks of the layer kind and of its reference: the names of fields, what each is. -/
import Derived.Test.YtbgfcbicbkijaaaKindW2
namespace Go.Proofs.Ytbgfcbicbkijaaa
open Go.RowKit

theorem Try.infoStr2 : (Try.prog.info? 9).map (fun i => (i.zero, i.size, i.bytes)) = some (some (.string ByteArray.empty), 1, 16) := by kernel_rfl
def fieldsFrom (k : Int) (l : List (Int × List UInt8 × Int)) : List (List UInt8) := (l.filter fun f => f.1 = k).map fun f => f.2.1
theorem fieldsFrom_cons (k : Int) (f : Int × List UInt8 × Int) (l : List (Int × List UInt8 × Int)) : fieldsFrom k (f :: l) = if f.1 = k then f.2.1 :: fieldsFrom k l else fieldsFrom k l := by
  unfold fieldsFrom
  by_cases h : f.1 = k <;> simp [h]
set_option maxHeartbeats 2000000 in
theorem fields_any (k : Int) (w : World) :
    Calls Try.prog 30 #[.int .i64 k] w fun e w' => ∃ v, e = .returned v ∧ Sl w' (fun b => w.heap.size ≤ b) v (fieldsL k).length (strC (fieldsL k)) ∧ Below w.heap.size w w' := by
  obtain ⟨i0, hi, hz0, hz1, hz2⟩ := info_parts Try.infoStr2
  go_enter Try.func30, Try.ntmps30
  go_wp2_with fail
  refine (table_any _).mono ?_
  rintro e w1 ⟨rfl, rfl⟩
  generalize hT : tabC.toArray = T
  have hcell : ∀ j, j < 39 → T[j]? = tabC[j]? := by intro j _; rw [← hT]; simp
  have HCL := Lib.hid hcell; clear hcell hT
  go_wp2_with fail
  go_loopw [3, 8] (fun v i wr => ∃ (j : Nat) (done : List (List UInt8)), j ≤ 13 ∧ i = .int .i64 j ∧ done.length ≤ j ∧ fieldsL k = done ++ fieldsFrom k (tab.drop j) ∧ wr.ownsRow (w.heap.size + 1) 9 1 v done.length (strC done) ∧ Below (w.heap.size + 1) (w.alloc (.cells T 65)) wr) (fun _ i _ => (13 - intOf i).toNat)
  case atStart => exact ⟨0, [], by omega, rfl, by simp, rfl, World.ownsRow_nil _ _ _ _, Below.refl _ _⟩
  case round =>
    obtain ⟨j, done, hj, rfl, hdj, ho, hown, hb⟩ := hrel
    have HO := Lib.hid ho; clear ho
    have c0 : ∀ o, wr.cell? ⟨w.heap.size, o, none⟩ = T[o]? := fun o => by
      rw [hb.cell (p := ⟨w.heap.size, o, none⟩) (by simp), World.cell?_alloc_mark]
    have hsz : w.heap.size + 1 ≤ wr.heap.size := by have := hb.size; simp at this; omega
    by_cases hlt : j < 13
    · obtain ⟨a1, a2, a3⟩ := tabC_at ⟨j, hlt⟩
      simp only at a1 a2 a3
      rw [← HCL.out _ (by omega), ← c0] at a1 a2 a3
      have hst : fieldsFrom k (tab.drop j) = if (tab.getD j (0, [], 0)).1 = k then (tab.getD j (0, [], 0)).2.1 :: fieldsFrom k (tab.drop (j + 1)) else fieldsFrom k (tab.drop (j + 1)) := by
        have hl : j < tab.length := hlt
        rw [List.drop_eq_getElem_cons hl, fieldsFrom_cons, tab_get j hl]
      generalize tab.getD j (0, [], 0) = f at a1 a2 a3 hst
      obtain ⟨f1, f2, f3⟩ := f
      simp only at a1 a2 a3 hst
      have HB := Lib.hid hb; clear hb
      clear c0
      by_cases h1 : f1 = k
      · have q1 : (f1 == k) = true := by simpa using h1
        rw [if_pos h1] at hst
        have HS := Lib.hid hst; clear hst h1
        go_wp2_with (at_builtin; refine wpL_append _ rfl _ _ 35 rfl (w.heap.size + 1) 9 i0 (.string ByteArray.empty) 1 16 Try.underlying35 hi hz0 hz1 hz2 rfl (by decide) _ _ _ rfl ((hown.alloc _).alloc _) ⟨wr.heap.size + 1, 0, none⟩ 1 1 [.string ⟨f2.toArray⟩] rfl rfl (by have := cell_one_new (wr.alloc (.cells #[.int .i64 f1, .string ⟨f2.toArray⟩, .int .i64 f3] 65)) (.string ⟨f2.toArray⟩) 9; simpa using this) (by simp [Value.oneCell']) (by unfold maxLen; omega) (by omega) (by simp; omega) ?_; intro v' w1 hown' hgrow _)
        have hb1 : Below (w.heap.size + 1) (w.alloc (.cells T 65)) w1 := ((HB.out.alloc hsz _).alloc (by simp; omega) _).grown hgrow (by simp; omega) (fun q hq => (hown.lt q hq).1)
        have HOW := Lib.hid hown'; clear hown'
        have HB1 := Lib.hid hb1; clear hb1
        clear hgrow hown
        go_wp2
        go_roundw
        case rel => exact ⟨j + 1, done ++ [f2], by omega, by go_num, by simp; omega, by rw [HO.out, HS.out]; simp, by simpa [strC] using HOW.out, HB1.out⟩
        case measure => simp [intOf]; omega
      · have q1 : (f1 == k) = false := by simpa using h1
        rw [if_neg h1] at hst
        have HS := Lib.hid hst; clear hst h1
        go_wp2_with fail
        go_roundw
        case rel => exact ⟨j + 1, done, by omega, by go_num, by omega, by rw [HO.out, HS.out], hown.alloc _, HB.out.alloc hsz _⟩
        case measure => simp [intOf]; omega
    · have hge : 13 ≤ j := by omega
      have hfin : fieldsL k = done := by
        rw [HO.out, List.drop_of_length_le (show tab.length ≤ j from hge)]; simp [fieldsFrom]
      have HF := Lib.hid hfin; clear hfin
      have HB := Lib.hid hb; clear hb
      go_wp2_with fail
      go_ret
      rw [HF.out]
      exact ⟨_, rfl, (Sl.of_owns hown).mono (fun _ _ _ => rfl) (fun b hb _ => by omega), ((Below.refl _ _).alloc (Nat.le_refl _) _).trans (HB.out.mono (by simp))⟩
def fieldPs (k : Int) : List Int := (tab.filter fun f => f.1 = k).map fun f => f.2.2
def intC (l : List Int) : List Value := l.map fun x => .int .i64 x
set_option maxHeartbeats 2000000 in
theorem rfields0_any (k : Int) (w : World) :
    Calls Try.prog 51 #[.int .i64 k] w fun e w' => ∃ v1 v2, e = .returned (.tuple #[v1, v2]) ∧ Sl w' (fun b => w.heap.size ≤ b) v1 (fieldsL k).length (strC (fieldsL k)) ∧ Sl w' (fun b => w.heap.size ≤ b) v2 (fieldPs k).length (intC (fieldPs k)) ∧ Below w.heap.size w w' := by
  by_cases h : k = 4 ∨ k = 5 ∨ k = 6
  · rcases h with rfl | rfl | rfl
    all_goals
      go_enter Try.func51, Try.ntmps51
      go_wp2
      go_ret2
      refine ⟨_, _, rfl, ((Sl.lit w _ _ _ _ rfl ?_).alloc _).mono (fun _ _ _ => rfl) (fun b hb _ => by omega), (Sl.lit' (w.alloc _) (w.heap.size + 1) (by simp) _ _ _ _ rfl ?_).mono (fun _ _ _ => rfl) (fun b hb _ => by omega), ((Below.refl _ _).alloc (Nat.le_refl _) _).alloc (by simp) _⟩
      all_goals decide
  · have n4 : ¬ (4 : Int) = k := by omega
    have n5 : ¬ (5 : Int) = k := by omega
    have n6 : ¬ (6 : Int) = k := by omega
    have e1 : fieldsL k = [] := by simp [fieldsL, tab, n4, n5, n6]
    have e2 : fieldPs k = [] := by simp [fieldPs, tab, n4, n5, n6]
    clear n4 n5 n6
    rw [e1, e2]
    have q4 : (k == 4) = false := by simp; omega
    have q5 : (k == 5) = false := by simp; omega
    have q6 : (k == 6) = false := by simp; omega
    clear e1 e2 h
    go_enter Try.func51, Try.ntmps51
    go_wp2
    go_ret2
    refine ⟨_, _, rfl, ⟨none, 0, rfl, Nat.le_refl _, by unfold maxLen; omega, fun j u hj => by simp [strC] at hj⟩, ⟨none, 0, rfl, Nat.le_refl _, by unfold maxLen; omega, fun j u hj => by simp [intC] at hj⟩, Below.refl _ _⟩

set_option maxHeartbeats 1000000 in
theorem rfields_any (k : Int) (w : World) :
    Calls Try.prog 31 #[.int .i64 k] w fun e w' => ∃ v, e = .returned v ∧ Sl w' (fun b => w.heap.size ≤ b) v (fieldsL k).length (strC (fieldsL k)) ∧ Below w.heap.size w w' := by
  go_enter Try.func31, Try.ntmps31
  go_wp2_with fail
  refine (rfields0_any k _).mono ?_
  rintro e w1 ⟨v1, v2, rfl, s1, s2, hb⟩
  have S1 := Lib.hid s1; clear s1 s2
  go_wp2_with fail
  go_ret
  exact ⟨_, rfl, S1.out, hb⟩
def pairGo (l : List UInt8) : List (List UInt8) → List Int → Int × Bool
  | [], _ => (0, false)
  | _, [] => (0, false)
  | a :: t, b :: r => if a = l then (b, true) else pairGo l t r
theorem pairGo_eq (k : Int) (l : List UInt8) : ∀ t : List (Int × List UInt8 × Int), pairGo l ((t.filter fun f => f.1 = k).map fun f => f.2.1) ((t.filter fun f => f.1 = k).map fun f => f.2.2) = fieldGo k l t
  | [] => rfl
  | f :: t => by
    by_cases h : f.1 = k
    · by_cases h2 : f.2.1 = l
      · simp [h, h2, pairGo, fieldGo]
      · simp only [List.filter_cons, h, decide_true, if_true, List.map_cons, pairGo, fieldGo, h2, and_false, if_false]
        exact pairGo_eq k l t
    · simp only [List.filter_cons, h, decide_false, Bool.false_eq_true, if_false, fieldGo, false_and]
      exact pairGo_eq k l t
theorem fieldPs_len (k : Int) : (fieldPs k).length = (fieldsL k).length := by simp [fieldPs, fieldsL]
theorem fieldsL_len (k : Int) : (fieldsL k).length ≤ 13 := by
  unfold fieldsL; rw [List.length_map]; exact Nat.le_trans (List.length_filter_le _ _) (by decide)
set_option maxHeartbeats 2000000 in
theorem rfield_any (k : Int) (s : ByteArray) (w : World) :
    Calls Try.prog 27 #[.int .i64 k, .string s] w fun e w' => e = .returned (.tuple #[.int .i64 (fieldP k s.data.toList).1, .bool (fieldP k s.data.toList).2]) ∧ Below w.heap.size w w' := by
  have hp := pairGo_eq k s.data.toList tab
  have hl1 := fieldPs_len k
  have hl2 := fieldsL_len k
  have h0 := fun w => rfields0_any k w
  change pairGo s.data.toList (fieldsL k) (fieldPs k) = fieldP k s.data.toList at hp
  generalize fieldsL k = A at hp hl1 hl2 h0
  generalize fieldPs k = B at hp hl1 h0
  have HP := Lib.hid hp; clear hp
  have HL := Lib.hid hl1; clear hl1
  have H0 := Lib.hid h0; clear h0
  go_enter Try.func27, Try.ntmps27
  go_wp2_with fail
  refine (H0.out _).mono ?_
  rintro e w1 ⟨v1, v2, rfl, ⟨a1, c1, rfl, l1, m1, s1⟩, ⟨a2, c2, rfl, l2, m2, s2⟩, hb⟩
  have S1 := Lib.hid s1; clear s1
  have S2 := Lib.hid s2; clear s2
  have HB := Lib.hid hb; clear hb
  go_wp2_with fail
  go_loop [8] (fun i => ∃ j : Nat, j ≤ A.length ∧ i = .int .i64 j ∧ fieldP k s.data.toList = pairGo s.data.toList (A.drop j) (B.drop j)) (fun i => A.length - (intOf i).toNat)
  case atStart => exact ⟨0, by omega, rfl, HP.out.symm⟩
  case round =>
    obtain ⟨j, hj, rfl, ho⟩ := hrel
    have HO := Lib.hid ho; clear ho
    by_cases hlt : j < A.length
    · have hltB : j < B.length := by rw [HL.out]; exact hlt
      obtain ⟨b1, o1, rfl, -, d1⟩ := S1.out j _ (strC_get A j hlt)
      obtain ⟨b2, o2, rfl, -, d2⟩ := S2.out j (.int .i64 B[j]) (by simp [intC, List.getElem?_eq_getElem hltB])
      have hst : pairGo s.data.toList (A.drop j) (B.drop j) = if A[j] = s.data.toList then (B[j], true) else pairGo s.data.toList (A.drop (j + 1)) (B.drop (j + 1)) := by
        rw [List.drop_eq_getElem_cons hlt, List.drop_eq_getElem_cons hltB, pairGo]
      have hltB2 : (j : Int) < (B.length : Int) := by omega
      generalize A[j] = a at d1 hst
      generalize B[j] = b at d2 hst
      have hBl : B.length = A.length := HL.out
      rw [hBl] at *
      by_cases h1 : a = s.data.toList
      · have q1 : (a == s.toList) = true := by rw [Lib.toList_data]; simpa using h1
        rw [if_pos h1] at hst
        have HS := Lib.hid hst; clear hst h1
        go_wp2_with fail
        go_ret2
        exact ⟨ret_ib (by rw [HO.out, HS.out]) (by rw [HO.out, HS.out]), HB.out⟩
      · have q1 : (a == s.toList) = false := by rw [Lib.toList_data]; simpa using h1
        rw [if_neg h1] at hst
        have HS := Lib.hid hst; clear hst h1
        go_wp2_with fail
        go_round
        case rel => exact ⟨j + 1, by omega, by go_num, by rw [HO.out, HS.out]⟩
        case measure => simp [intOf]; omega
    · have hge : A.length ≤ j := by omega
      have hfin : fieldP k s.data.toList = (0, false) := by
        rw [HO.out, List.drop_of_length_le hge]; rfl
      have HF := Lib.hid hfin; clear hfin
      go_wp2_with fail
      go_ret2
      exact ⟨ret_ib (by rw [HF.out]) (by rw [HF.out]), HB.out⟩
end Go.Proofs.Ytbgfcbicbkijaaa
