/- The statement KindEach of layer 15: what the law computes, walked. -/
import Derived.Test.YtbgfcbicbkijaaaLaw15
namespace Go.Proofs.Ytbgfcbicbkijaaa
open Go.RowKit

def callsC : List Value := callsL.map fun l => .string ⟨l.toArray⟩
theorem calls_any (w : World) : Calls Try.prog 23 #[] w fun e w' => e = .returned (.slice (some ⟨w.heap.size, 0, none⟩) 22 22) ∧ w' = w.alloc (.cells callsC.toArray 9) := by
  go_enter Try.func23, Try.ntmps23
  go_wp2
  go_ret
  exact ⟨rfl, rfl⟩
/-- Nothing is found for n at a; at a and b. -/
def no2 (n : List UInt8) (a b : Int) : Prop := (progCall n [a, b]).2 = false ∧ ∀ c : Nat, 1 ≤ c → c ≤ 9 → (progCall n [a, b, (c : Int)]).2 = false
def no1 (n : List UInt8) (a : Int) : Prop := (progCall n [a]).2 = false ∧ ∀ b : Nat, 1 ≤ b → b ≤ 9 → no2 n a (b : Int)
def acc3 (n : List UInt8) : Bool :=
  (List.range 10).any fun a => 1 ≤ a && ((progCall n [(a : Int)]).2 || (List.range 10).any fun b => 1 ≤ b && ((progCall n [(a : Int), (b : Int)]).2 || (List.range 10).any fun c => 1 ≤ c && (progCall n [(a : Int), (b : Int), (c : Int)]).2))
theorem acc_all : ∀ i : Fin 22, acc3 (callsL[i.1]'i.2) = true := by decide +kernel
theorem acc_no (n : List UInt8) (h : acc3 n = true) : ¬ ∀ a : Nat, 1 ≤ a → a ≤ 9 → no1 n (a : Int) := by
  intro hn
  simp only [acc3, List.any_eq_true, List.mem_range, Bool.and_eq_true, Bool.or_eq_true, decide_eq_true_eq] at h
  obtain ⟨a, ha, ha1, h⟩ := h
  obtain ⟨h1, h2⟩ := hn a ha1 (by omega)
  rcases h with h | ⟨b, hb, hb1, h⟩
  · rw [h1] at h; cases h
  · obtain ⟨h3, h4⟩ := h2 b hb1 (by omega)
    rcases h with h | ⟨c, hc, hc1, h⟩
    · rw [h3] at h; cases h
    · rw [h4 c hc1 (by omega)] at h; cases h
theorem rowGo_kind (n : List UInt8) (L : List Int) : ∀ t : List (List UInt8 × List Int × Int), (∀ r ∈ t, 1 ≤ r.2.2 ∧ r.2.2 ≤ 9) → (rowGo n L t).2 = true → 1 ≤ (rowGo n L t).1 ∧ (rowGo n L t).1 ≤ 9
  | [], _, h => by cases h
  | r :: t, hr, h => by
    unfold rowGo at h ⊢
    split
    · exact hr r (List.mem_cons_self ..)
    · rename_i hh
      rw [if_neg hh] at h
      exact rowGo_kind n L t (fun r hm => hr r (List.mem_cons_of_mem _ hm)) h
theorem call_kind (n : List UInt8) (L : List Int) (h : (progCall n L).2 = true) : 1 ≤ (progCall n L).1 ∧ (progCall n L).1 ≤ 9 := by
  rw [progCall_eq] at h ⊢
  exact rowGo_kind n L rowsL (by decide) h
theorem name_of (n : List UInt8) (L : List Int) (g : Int) (h : progCall n L = (g, true)) : ∃ N : List UInt8, (N == []) = false ∧ ∀ w : World, Calls Try.prog 32 #[.int .i64 g] w fun e w' => e = .returned (.string ⟨N.toArray⟩) ∧ Below w.heap.size w w' := by
  have hk := call_kind n L (by rw [h])
  rw [h] at hk
  refine ⟨nameL g, ?_, fun w => name_any g w⟩
  rw [name_nil]; simp only [hk, and_self, decide_true, Bool.not_true]
set_option maxHeartbeats 4000000 in
theorem law_kindEach (n : Int) (h0 : 0 ≤ n) (h1 : n ≤ 255) (w : World) :
    Calls Try.prog 7 #[.int .u8 n] w fun e w' => e = .returned (.bool true) ∧ Below w.heap.size w w' := by
  obtain ⟨m, rfl⟩ : ∃ m : Nat, n = (m : Int) := ⟨n.toNat, by omega⟩
  obtain ⟨nm, hnm, hacc⟩ : ∃ nm, callsC[m % 22]? = some (.string ⟨nm.toArray⟩) ∧ acc3 nm = true := by
    have hlt : m % 22 < 22 := Nat.mod_lt _ (by omega)
    refine ⟨callsL[m % 22]'hlt, ?_, acc_all ⟨m % 22, hlt⟩⟩
    have : m % 22 < callsL.length := hlt
    rw [callsC, List.getElem?_map, List.getElem?_eq_getElem this]; rfl
  have k1 := fun (a : Int) w => callLit nm [a] _ rfl 1 rfl (by decide) w #[.int .i64 a] rfl
  have k2 := fun (a b : Int) w => callLit nm [a, b] _ rfl 2 rfl (by decide) w #[.int .i64 a, .int .i64 b] rfl
  have k3 := fun (a b c : Int) w => callLit nm [a, b, c] _ rfl 3 rfl (by decide) w #[.int .i64 a, .int .i64 b, .int .i64 c] rfl
  have K1 := Lib.hid k1; clear k1
  have K2 := Lib.hid k2; clear k2
  have K3 := Lib.hid k3; clear k3
  have F8 := Lib.hid awake15_any
  have HA := Lib.hid (acc_no nm hacc); clear hacc
  go_enter Try.func7, Try.ntmps7
  go_wp2_with fail
  refine (calls_any _).mono ?_
  rintro e w' ⟨rfl, rfl⟩
  go_wp2_with fail
  go_loopw [5] (fun i wr => ∃ a : Nat, 1 ≤ a ∧ a ≤ 10 ∧ i = .int .i64 a ∧ Hid (∀ a' : Nat, 1 ≤ a' → a' < a → no1 nm (a' : Int)) ∧ Below w.heap.size w wr) (fun i _ => 10 - (intOf i).toNat)
  case atStart => exact ⟨1, by omega, by omega, rfl, Lib.hid (fun a' h1 h2 => by omega), (Below.refl _ _).alloc (Nat.le_refl _) _⟩
  case round =>
    obtain ⟨a, ha1, ha2, rfl, hn, hb⟩ := hrel
    have HB := Lib.hid hb; clear hb
    by_cases hlt : a ≤ 9
    · cases e1 : progCall nm [(a : Int)] with | mk g t =>
      have k := K1.out (a : Int)
      rw [e1] at k
      cases t
      · have K := Lib.hid k; clear k
        have E1 := Lib.hid e1; clear e1
        go_wp2_with fail
        refine (K.out _).mono ?_
        rintro e w3 ⟨rfl, b3⟩
        have HB3 := Lib.hid (HB.out.trans (b3.mono HB.out.size)); clear b3
        go_wp2_with fail
        go_loopw [8] (fun i wr => ∃ b : Nat, 1 ≤ b ∧ b ≤ 10 ∧ i = .int .i64 b ∧ Hid (∀ b' : Nat, 1 ≤ b' → b' < b → no2 nm (a : Int) (b' : Int)) ∧ Below w.heap.size w wr) (fun i _ => 10 - (intOf i).toNat)
        case atStart => exact ⟨1, by omega, by omega, rfl, Lib.hid (fun a' h1 h2 => by omega), HB3.out⟩
        case round =>
          obtain ⟨b, hb1, hb2, rfl, hnb, hb⟩ := hrel
          have HC := Lib.hid hb; clear hb HB3
          by_cases hltb : b ≤ 9
          · cases e2 : progCall nm [(a : Int), (b : Int)] with | mk g2 t =>
            have k := K2.out (a : Int) (b : Int)
            rw [e2] at k
            cases t
            · have K4 := Lib.hid k; clear k
              have E2 := Lib.hid e2; clear e2
              go_wp2_with fail
              refine (K4.out _).mono ?_
              rintro e w4 ⟨rfl, b4⟩
              have HC4 := Lib.hid (HC.out.trans (b4.mono HC.out.size)); clear b4
              go_wp2_with fail
              go_loopw [11] (fun i wr => ∃ c : Nat, 1 ≤ c ∧ c ≤ 10 ∧ i = .int .i64 c ∧ Hid (∀ c' : Nat, 1 ≤ c' → c' < c → (progCall nm [(a : Int), (b : Int), (c' : Int)]).2 = false) ∧ Below w.heap.size w wr) (fun i _ => 10 - (intOf i).toNat)
              case atStart => exact ⟨1, by omega, by omega, rfl, Lib.hid (fun a' h1 h2 => by omega), HC4.out⟩
              case round =>
                obtain ⟨c, hc1, hc2, rfl, hnc, hb⟩ := hrel
                have HD := Lib.hid hb; clear hb HC4
                by_cases hltc : c ≤ 9
                · cases e3 : progCall nm [(a : Int), (b : Int), (c : Int)] with | mk g3 t =>
                  have k := K3.out (a : Int) (b : Int) (c : Int)
                  rw [e3] at k
                  cases t
                  · have K5 := Lib.hid k; clear k
                    have E3 := Lib.hid e3; clear e3
                    go_wp2_with fail
                    refine (K5.out _).mono ?_
                    rintro e w5 ⟨rfl, b5⟩
                    have HD5 := Lib.hid (HD.out.trans (b5.mono HD.out.size)); clear b5
                    go_wp2_with fail
                    go_roundw
                    case rel =>
                      refine ⟨c + 1, by omega, by omega, by go_num, Lib.hid (fun c' h1 h2 => ?_), HD5.out⟩
                      by_cases h : c' < c
                      · exact hnc.out c' h1 h
                      · have : c' = c := by omega
                        subst this
                        rw [E3.out]
                    case measure => simp [intOf]; omega
                  · obtain ⟨N, hN, hw⟩ := name_of _ _ _ e3
                    have K := Lib.hid k; clear k
                    have HW := Lib.hid hw; clear hw e3
                    go_wp2_with fail
                    refine (K.out _).mono ?_
                    rintro e w3 ⟨rfl, b3⟩
                    go_wp2_with fail
                    refine (HW.out _).mono ?_
                    rintro e w4 ⟨rfl, b4⟩
                    go_wp2_with fail
                    refine (F8.out _).mono ?_
                    rintro e w5 ⟨rfl, b5⟩
                    go_wp2_with fail
                    go_ret
                    refine ⟨rfl, ?_⟩
                    have r1 := HD.out.trans (b3.mono HD.out.size)
                    have r2 := r1.trans (b4.mono r1.size)
                    exact r2.trans (b5.mono r2.size)
                · go_wp2_with fail
                  go_roundw
                  case rel =>
                    refine ⟨b + 1, by omega, by omega, by go_num, Lib.hid (fun b' h1 h2 => ?_), HD.out⟩
                    by_cases h : b' < b
                    · exact hnb.out b' h1 h
                    · have : b' = b := by omega
                      subst this
                      exact ⟨by rw [E2.out], fun c' h3 h4 => hnc.out c' h3 (by omega)⟩
                  case measure => simp [intOf]; omega
            · obtain ⟨N, hN, hw⟩ := name_of _ _ _ e2
              have K := Lib.hid k; clear k
              have HW := Lib.hid hw; clear hw e2
              go_wp2_with fail
              refine (K.out _).mono ?_
              rintro e w3 ⟨rfl, b3⟩
              go_wp2_with fail
              refine (HW.out _).mono ?_
              rintro e w4 ⟨rfl, b4⟩
              go_wp2_with fail
              refine (F8.out _).mono ?_
              rintro e w5 ⟨rfl, b5⟩
              go_wp2_with fail
              go_ret
              refine ⟨rfl, ?_⟩
              have r1 := HC.out.trans (b3.mono HC.out.size)
              have r2 := r1.trans (b4.mono r1.size)
              exact r2.trans (b5.mono r2.size)
          · go_wp2_with fail
            go_roundw
            case rel =>
              refine ⟨a + 1, by omega, by omega, by go_num, Lib.hid (fun a' h1 h2 => ?_), HC.out⟩
              by_cases h : a' < a
              · exact hn.out a' h1 h
              · have : a' = a := by omega
                subst this
                exact ⟨by rw [E1.out], fun b' h3 h4 => hnb.out b' h3 (by omega)⟩
            case measure => simp [intOf]; omega
      · obtain ⟨N, hN, hw⟩ := name_of _ _ _ e1
        have K := Lib.hid k; clear k
        have HW := Lib.hid hw; clear hw e1
        go_wp2_with fail
        refine (K.out _).mono ?_
        rintro e w3 ⟨rfl, b3⟩
        go_wp2_with fail
        refine (HW.out _).mono ?_
        rintro e w4 ⟨rfl, b4⟩
        go_wp2_with fail
        refine (F8.out _).mono ?_
        rintro e w5 ⟨rfl, b5⟩
        go_wp2_with fail
        go_ret
        refine ⟨rfl, ?_⟩
        have r1 := HB.out.trans (b3.mono HB.out.size)
        have r2 := r1.trans (b4.mono r1.size)
        exact r2.trans (b5.mono r2.size)
    · exact (HA.out (fun a' h1 h2 => hn.out a' h1 (by omega))).elim
end Go.Proofs.Ytbgfcbicbkijaaa
