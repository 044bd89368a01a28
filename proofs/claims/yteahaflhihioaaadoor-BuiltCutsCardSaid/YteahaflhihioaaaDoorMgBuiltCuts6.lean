/- The proof's texts, part 6 of 6: the walks by a logic in which data are by value, the plain laws, and at the end the law, for every input. -/
import Derived.Test.YteahaflhihioaaaDoorMgBuiltCuts5
import Derived.Test.YteahaflhihioaaaDoorCards
import Derived.Test.YteahaflhihioaaaDoorTie
import Derived.ChangeVars
import Derived.LaidLaws
import Derived.LaidMore
import Derived.Lay
import Derived.SevenTiedAt
import Derived.Stop.Joined

section
namespace Go.Proofs.YteahaflhihioaaaDoor
open Go.RowKit

mutual
def sz : api_Val → Nat
  | ⟨_, _, _, _, l⟩ => 1 + szs l
def szs : List api_Val → Nat
  | [] => 0
  | v :: r => 1 + sz v + szs r
end
theorem sz_eq (v : api_Val) : sz v = 1 + szs v.L := by cases v; rw [sz]
theorem sz_mem : ∀ {l : List api_Val} {v : api_Val}, v ∈ l → sz v < szs l
  | x :: r, v, h => by
    rcases List.mem_cons.1 h with rfl | h
    · simp [szs]; omega
    · have := sz_mem h; simp [szs]; omega
mutual
def few : api_Val → Prop
  | ⟨_, _, _, _, l⟩ => l.length ≤ 65536 ∧ fews l
def fews : List api_Val → Prop
  | [] => True
  | v :: r => few v ∧ fews r
end
theorem few_eq (v : api_Val) : few v ↔ v.L.length ≤ 65536 ∧ fews v.L := by cases v; rw [few]
theorem fews_mem : ∀ {l : List api_Val}, fews l → ∀ v ∈ l, few v
  | x :: r, h, v, hv => by
    rcases List.mem_cons.1 hv with rfl | hv
    · exact h.1
    · exact fews_mem h.2 v hv
mutual
def cnf : api_Val → Bool
  | ⟨k, s, n, b, l⟩ => (k == 1 || s == []) && (k == 2 || n == 0) && (k == 3 || !b) &&
    (if plainB k then l.isEmpty else if (elemP k).2 then decide (l.length ≤ 4096) && cnfA (elemP k).1 l
      else decide (fieldsL k ≠ []) && decide ((fieldsL k).length = l.length) && cnfF k (fieldsL k) l)
def cnfA : Int → List api_Val → Bool
  | _, [] => true
  | e, v :: r => v.K == e && cnf v && cnfA e r
def cnfF : Int → List (List UInt8) → List api_Val → Bool
  | _, _, [] => true
  | _, [], _ :: _ => true
  | k, n :: ns, v :: r => v.K == (fieldP k n).1 && cnf v && cnfF k ns r
end
theorem cnf_eq (v : api_Val) : cnf v = ((v.K == 1 || v.S == []) && (v.K == 2 || v.N == 0) && (v.K == 3 || !v.B) &&
    (if plainB v.K then v.L.isEmpty else if (elemP v.K).2 then decide (v.L.length ≤ 4096) && cnfA (elemP v.K).1 v.L
      else decide (fieldsL v.K ≠ []) && decide ((fieldsL v.K).length = v.L.length) && cnfF v.K (fieldsL v.K) v.L)) := by cases v; rw [cnf]
theorem len0I (l : List api_Val) : ((l.length : Int) == 0) = l.isEmpty := by cases l <;> simp; omega
theorem isIdx {N : Nat} (IH : ∀ v, sz v ≤ N → few v → schema_Is v = some (cnf v)) (e : Int) (l : List api_Val) (hs : szs l ≤ N) (hf : fews l) (hl : l.length ≤ 65536) :
    ∀ i, i ≤ l.length → ∃ o, slices_IndexFunc_api_Val_api_Val_schema_Is_1_L1 l e i = some o ∧ (match o with | .inl _ => cnfA e (l.drop i) = true | .inr j => 0 ≤ j ∧ cnfA e (l.drop i) = false) := by
  refine upto ?_ fun i hi ih => ?_
  · rw [slices_IndexFunc_api_Val_api_Val_schema_Is_1_L1]
    refine ⟨.inl (), by simp, by simp [cnfA]⟩
  · rw [slices_IndexFunc_api_Val_api_Val_schema_Is_1_L1, wr_succ (by omega), dropE hi]
    obtain ⟨o, ho, hk⟩ := ih
    have hm := List.getElem_mem hi
    have hv := IH l[i] (by have := sz_mem hm; omega) (fews_mem hf _ hm)
    simp only [ltI, hi, decide_true, if_true, idx_nat, getE hi, bind_some', schema_Is_1, cnfA]
    by_cases h1 : l[i].K = e
    · simp only [h1, bne_self_eq_false, Bool.false_eq_true, if_false, hv, bind_some', beq_self_eq_true, Bool.true_and]
      cases h2 : cnf l[i] with
      | true =>
        simp only [Bool.not_true, Bool.false_eq_true, if_false, Bool.true_and]
        exact ⟨o, ho, hk⟩
      | false =>
        simp only [Bool.not_false, if_true, Bool.false_and]
        exact ⟨.inr i, rfl, by simp⟩
    · have hb : (l[i].K != e) = true := by simpa using h1
      have hb2 : (l[i].K == e) = false := by simpa using h1
      simp only [hb, if_true, bind_some', hb2, Bool.false_and]
      exact ⟨.inr i, rfl, by simp⟩
theorem isCont {N : Nat} (IH : ∀ v, sz v ≤ N → few v → schema_Is v = some (cnf v)) (e : Int) (l : List api_Val) (hs : szs l ≤ N) (hf : fews l) (hl : l.length ≤ 65536) :
    slices_ContainsFunc_api_Val_api_Val_schema_Is_1 l e = some (!cnfA e l) := by
  rw [slices_ContainsFunc_api_Val_api_Val_schema_Is_1, slices_IndexFunc_api_Val_api_Val_schema_Is_1]
  obtain ⟨o, ho, hk⟩ := isIdx IH e l hs hf hl 0 (by omega)
  rw [show (0 : Int) = ((0 : Nat) : Int) from rfl, ho]
  rw [List.drop_zero] at hk
  cases o with
  | inl y => simp only [bind_some', hk]; rfl
  | inr j => simp only [bind_some', hk.2, decide_eq_true hk.1]; simp [hk.1]
theorem isFs {N : Nat} (IH : ∀ v, sz v ≤ N → few v → schema_Is v = some (cnf v)) (v : api_Val) (o1 : List UInt8 × Int × Bool) (x4 : Int × Bool) (ns : List (List UInt8)) (hs : szs v.L ≤ N) (hf : fews v.L) (hl : ns.length = v.L.length) (hb : v.L.length ≤ 65536) :
    ∀ i, i ≤ ns.length → schema_Is_L1 v o1 x4 ns i = some (if cnfF v.K (ns.drop i) (v.L.drop i) then .inl () else .inr ()) := by
  refine upto ?_ fun i hi ih => ?_
  · rw [schema_Is_L1]
    have : v.L.drop ns.length = [] := by rw [hl]; simp
    simp [this, cnfF]
  · have hi2 : i < v.L.length := by omega
    have hm := List.getElem_mem hi2
    have hv := IH v.L[i] (by have := sz_mem hm; omega) (fews_mem hf _ hm)
    rw [schema_Is_L1, wr_succ (by omega), ih, dropE hi, dropE hi2, cnfF]
    simp only [ltI, hi, decide_true, if_true, idx_nat, getE hi, getE hi2, bind_some', kField, hv]
    by_cases h1 : v.L[i].K = (fieldP v.K ns[i]).1
    · simp only [h1, bne_self_eq_false, Bool.false_eq_true, if_false, bind_some', beq_self_eq_true, Bool.true_and]
      cases cnf v.L[i] <;> simp
    · have h2 : (v.L[i].K == (fieldP v.K ns[i]).1) = false := by simpa using h1
      have h3 : (v.L[i].K != (fieldP v.K ns[i]).1) = true := by simpa using h1
      simp [h3, h2]
theorem sIs_n : ∀ (N : Nat) (v : api_Val), sz v ≤ N → few v → schema_Is v = some (cnf v) := by
  intro N
  induction N with
  | zero => intro v h; rw [sz_eq] at h; omega
  | succ N IH =>
    intro v hN hf
    obtain ⟨hl, hfs⟩ := (few_eq v).1 hf
    have hs : szs v.L ≤ N := by rw [sz_eq] at hN; omega
    rw [schema_Is, cnf_eq]
    have e1 : (if (v.K == 1) = true then some (v.S, (0 : Int), false) else if (v.K == 2) = true then some ([], v.N, false) else if (v.K == 3) = true then some ([], 0, v.B) else some ([], 0, false)) = some (if v.K = 1 then v.S else [], if v.K = 2 then v.N else 0, if v.K = 3 then v.B else false) := by
      by_cases h1 : v.K = 1
      · simp [h1]
      · by_cases h2 : v.K = 2
        · simp [h2]
        · by_cases h3 : v.K = 3
          · simp [h3]
          · simp [h1, h2, h3]
    rw [e1]
    simp only [bind_some']
    have e2 : (if (!((if v.K = 1 then v.S else []) == v.S)) = true then some true else if ((if v.K = 2 then v.N else 0) != v.N) = true then some true else some ((if v.K = 3 then v.B else false) != v.B)) = some (!((v.K == 1 || v.S == []) && (v.K == 2 || v.N == 0) && (v.K == 3 || !v.B))) := by
      by_cases h1 : v.K = 1
      · by_cases hn : v.N = 0
        · cases hb : v.B <;> simp [h1, hn]
        · have : ¬ (0 = v.N) := fun h => hn h.symm
          cases hb : v.B <;> simp [h1, hn, this]
      · by_cases hS : v.S = []
        · by_cases h2 : v.K = 2
          · simp only [h2, hS]; cases hb : v.B <;> simp
          · by_cases hn : v.N = 0
            · by_cases h3 : v.K = 3
              · simp [h3, hS, hn]
              · cases hb : v.B <;> simp [h1, h2, h3, hS, hn]
            · have : ¬ (0 = v.N) := fun h => hn h.symm
              simp [h1, h2, hS, hn, this]
        · have : ¬ ([] = v.S) := fun h => hS h.symm
          simp [h1, hS, this]
    rw [e2]
    simp only [bind_some', kPlain, kElem, kFields]
    cases hc : ((v.K == 1 || v.S == []) && (v.K == 2 || v.N == 0) && (v.K == 3 || !v.B)) with
    | false => simp
    | true =>
      simp only [Bool.not_true, Bool.false_eq_true, if_false, Bool.true_and]
      cases hp : plainB v.K with
      | true => simp only [if_true]; rw [len0I]
      | false =>
        simp only [Bool.false_eq_true, if_false]
        cases he : (elemP v.K).2 with
        | true =>
          simp only [if_true]
          rw [isCont IH _ _ hs hfs hl]
          by_cases h4 : v.L.length ≤ 4096
          · have : ((v.L.length : Int) ≤ 4096) := by omega
            simp [this, h4]
          · have : ¬ ((v.L.length : Int) ≤ 4096) := by omega
            simp [this, h4]
        | false =>
          simp only [Bool.false_eq_true, if_false]
          by_cases h5 : fieldsL v.K = []
          · simp [h5]
          · have h6 : (((fieldsL v.K).length : Int) == 0) = false := by
              cases hq : fieldsL v.K with
              | nil => exact absurd hq h5
              | cons x r => simp; omega
            by_cases h7 : (fieldsL v.K).length = v.L.length
            · rw [show (0 : Int) = ((0 : Nat) : Int) from rfl] at h6 ⊢
              rw [isFs IH v _ _ _ hs hfs h7 hl 0 (by omega)]
              have h8 : (((fieldsL v.K).length : Int) != (v.L.length : Int)) = false := by rw [h7]; simp
              simp only [h6, Bool.false_eq_true, if_false, bind_some', h8, List.drop_zero]
              cases hq : cnfF v.K (fieldsL v.K) v.L <;> simp [h5, h7]
            · have h8 : (((fieldsL v.K).length : Int) != (v.L.length : Int)) = true := by simp; omega
              simp only [h6, Bool.false_eq_true, if_false, bind_some', h8, if_true, h7, decide_false, Bool.and_false, Bool.false_and]
theorem sIs (v : api_Val) (h : few v) : schema_Is v = some (cnf v) := sIs_n _ v (Nat.le_refl _) h
end Go.Proofs.YteahaflhihioaaaDoor
end

section
namespace Go.Proofs.YteahaflhihioaaaDoor
open Go.RowKit

@[simp] theorem val_eta (v : api_Val) : api_Val.mk v.K v.S v.N v.B v.L = v := by cases v; rfl
abbrev val0 : api_Val := ⟨0, [], 0, false, []⟩
theorem cnf_len (v : api_Val) (h : cnf v = true) (hk : fieldsL v.K ≠ []) : (fieldsL v.K).length = v.L.length := by
  have h4 : v.K = 4 ∨ v.K = 5 ∨ v.K = 6 := by
    by_cases h4 : v.K = 4
    · exact .inl h4
    · by_cases h5 : v.K = 5
      · exact .inr (.inl h5)
      · by_cases h6 : v.K = 6
        · exact .inr (.inr h6)
        · exact absurd (fields_none v.K h4 h5 h6).1 hk
  rw [cnf_eq] at h
  simp only [Bool.and_eq_true] at h
  obtain ⟨-, h⟩ := h
  have hp : plainB v.K = false := by rcases h4 with e | e | e <;> rw [e] <;> rfl
  have he : (elemP v.K).2 = false := by rcases h4 with e | e | e <;> rw [e] <;> rfl
  simp only [hp, he, Bool.false_eq_true, if_false, Bool.and_eq_true, decide_eq_true_eq] at h
  exact h.1.2
theorem pair_two (p : api_Val) (hc : cnf p = true) (hk : p.K = 4) : ∃ a b, p.L = [a, b] := by
  have h5 : (fieldsL p.K).length = 2 := by rw [hk]; rfl
  have h2 := cnf_len p hc (by rw [hk]; decide)
  rw [h5] at h2
  match hl : p.L, h2 with
  | [a, b], _ => exact ⟨a, b, rfl⟩
theorem cnfA_mem (e : Int) : ∀ l : List api_Val, cnfA e l = true → ∀ v ∈ l, v.K = e ∧ cnf v = true
  | [], _, v, hv => by cases hv
  | x :: r, h, v, hv => by
    simp only [cnfA, Bool.and_eq_true, beq_iff_eq] at h
    rcases List.mem_cons.1 hv with rfl | hv
    · exact ⟨h.1.1, h.1.2⟩
    · exact cnfA_mem e r h.2 v hv
theorem cnf_pairs (v : api_Val) (hk : v.K = 8) (hc : cnf v = true) : ∀ p ∈ v.L, ∃ a b, p.L = [a, b] := by
  rw [cnf_eq] at hc
  simp only [Bool.and_eq_true] at hc
  have hp : plainB v.K = false := by rw [hk]; rfl
  have he : elemP v.K = (4, true) := by rw [hk]; rfl
  simp only [hp, he, Bool.false_eq_true, if_false, if_true, Bool.and_eq_true] at hc
  intro p hp
  obtain ⟨h1, h2⟩ := cnfA_mem 4 v.L hc.2.2 p hp
  exact pair_two p h2 h1
def findL (s : List UInt8) : List api_Val → Option (List UInt8)
  | [] => none
  | p :: r => if (p.L.getD 0 val0).S = s then some (p.L.getD 1 val0).S else findL s r
def findP (v : api_Val) (s : List UInt8) : List UInt8 × Bool := if v.K = 8 ∧ cnf v = true then match findL s v.L with | some t => (t, true) | none => ([], false) else ([], false)
theorem sFindL (v : api_Val) (s : List UInt8) (hb : v.L.length ≤ 65536) (hp : ∀ p ∈ v.L, ∃ a b, p.L = [a, b]) : ∀ i, i ≤ v.L.length → schema_Find_L1 v s i = some (match findL s (v.L.drop i) with | some t => .inr t | none => .inl ()) := by
  refine upto ?_ fun i hi ih => ?_
  · rw [schema_Find_L1]; simp [findL]
  · obtain ⟨a, b, hab⟩ := hp _ (List.getElem_mem hi)
    rw [schema_Find_L1, wr_succ (by omega), ih, dropE hi, findL]
    simp only [ltI, hi, decide_true, if_true, idx_nat, getE hi, bind_some', hab, idx_0, idx_1]
    by_cases h : a.S = s
    · simp [h]
    · simp [h]
theorem sFind (v : api_Val) (s : List UInt8) (h : few v) : schema_Find v s = some (findP v s) := by
  unfold schema_Find findP
  by_cases hk : v.K = 8
  · rw [sIs v h]
    cases hc : cnf v with
    | false => simp [hk]
    | true =>
      rw [show schema_Find_L1 v s 0 = _ from sFindL v s ((few_eq v).1 h).1 (cnf_pairs v hk hc) 0 (by omega), List.drop_zero]
      cases findL s v.L <;> simp [hk]
  · simp [hk]
abbrev t1 : api_Val := ⟨1, [], 0, false, []⟩
end Go.Proofs.YteahaflhihioaaaDoor
end

section
namespace Go.Proofs.YteahaflhihioaaaDoor
open Go.RowKit

def contB (c : UInt8) : Bool := decide (128 ≤ c.toNat) && decide (c.toNat < 192)
def runeB (n : Nat) : Bool := decide (n ≤ 1114111) && !(decide (55296 ≤ n) && decide (n ≤ 57343))
/-- The rune at the head, and how many bytes it has. -/
def nextC (c : UInt8) (r : List UInt8) : Nat × Nat :=
    if c.toNat < 128 then (c.toNat, 1)
    else if 192 ≤ c.toNat ∧ c.toNat < 224 then
      match r with
      | c1 :: _ => if contB c1 = true ∧ 128 ≤ (c.toNat - 192) * 64 + (c1.toNat - 128) then ((c.toNat - 192) * 64 + (c1.toNat - 128), 2) else (65533, 1)
      | _ => (65533, 1)
    else if 224 ≤ c.toNat ∧ c.toNat < 240 then
      match r with
      | c1 :: c2 :: _ => if contB c1 = true ∧ contB c2 = true ∧ 2048 ≤ ((c.toNat - 224) * 64 + (c1.toNat - 128)) * 64 + (c2.toNat - 128) ∧ runeB (((c.toNat - 224) * 64 + (c1.toNat - 128)) * 64 + (c2.toNat - 128)) = true then (((c.toNat - 224) * 64 + (c1.toNat - 128)) * 64 + (c2.toNat - 128), 3) else (65533, 1)
      | _ => (65533, 1)
    else if 240 ≤ c.toNat ∧ c.toNat < 248 then
      match r with
      | c1 :: c2 :: c3 :: _ => if contB c1 = true ∧ contB c2 = true ∧ contB c3 = true ∧ 65536 ≤ (((c.toNat - 240) * 64 + (c1.toNat - 128)) * 64 + (c2.toNat - 128)) * 64 + (c3.toNat - 128) ∧ runeB ((((c.toNat - 240) * 64 + (c1.toNat - 128)) * 64 + (c2.toNat - 128)) * 64 + (c3.toNat - 128)) = true then ((((c.toNat - 240) * 64 + (c1.toNat - 128)) * 64 + (c2.toNat - 128)) * 64 + (c3.toNat - 128), 4) else (65533, 1)
      | _ => (65533, 1)
    else (65533, 1)
def nextP : List UInt8 → Nat × Nat
  | [] => (0, 0)
  | c :: r => nextC c r
theorem i32_in {n : Int} (h1 : -2147483648 ≤ n) (h2 : n ≤ 2147483647) : IntKind.i32.wrap n = n := by
  simp [IntKind.wrap, IntKind.bits, IntKind.signed]
  omega
theorem and63 : ∀ c : Fin 256, bits .and .u8 ((c.1 : Nat) : Int) 63 = ((c.1 % 64 : Nat) : Int) := by decide +kernel
theorem and192 : ∀ c : Fin 256, (bits .and .u8 ((c.1 : Nat) : Int) 192 != 128) = !(decide (128 ≤ c.1) && decide (c.1 < 192)) := by decide +kernel
theorem and31 : ∀ c : Fin 256, bits .and .u8 ((c.1 : Nat) : Int) 31 = ((c.1 % 32 : Nat) : Int) := by decide +kernel
theorem and15 : ∀ c : Fin 256, bits .and .u8 ((c.1 : Nat) : Int) 15 = ((c.1 % 16 : Nat) : Int) := by decide +kernel
theorem and7 : ∀ c : Fin 256, bits .and .u8 ((c.1 : Nat) : Int) 7 = ((c.1 % 8 : Nat) : Int) := by decide +kernel
theorem or64 (a b : Nat) (ha : a < 1000000) (hb : b < 64) : bits .or .i32 (IntKind.i32.wrap ((a : Int) * 2 ^ (min (6 : Int).toNat (IntKind.i32.bits)))) (IntKind.i32.wrap (b : Int)) = ((a * 64 + b : Nat) : Int) := by
  have e1 : IntKind.i32.wrap ((a : Int) * 2 ^ (min (6 : Int).toNat (IntKind.i32.bits))) = ((a * 64 : Nat) : Int) := by
    have : (min (6 : Int).toNat (IntKind.i32.bits)) = 6 := rfl
    rw [this, i32_in (by omega) (by omega)]; omega
  rw [e1, i32_in (by omega) (by omega)]
  have e2 : (2 : Nat) ^ 6 * a + b = 2 ^ 6 * a ||| b := Nat.two_pow_add_eq_or_of_lt (by omega) a
  have e3 : a * 64 ||| b = a * 64 + b := by
    have : (2 : Nat) ^ 6 * a = a * 64 := by omega
    rw [this] at e2; omega
  show IntKind.i32.wrap ((BitVec.ofInt 32 ((a * 64 : Nat) : Int) ||| BitVec.ofInt 32 (b : Int)).toNat : Int) = _
  rw [BitVec.toNat_or, BitVec.ofInt_natCast, BitVec.ofInt_natCast, BitVec.toNat_ofNat, BitVec.toNat_ofNat, Nat.mod_eq_of_lt (by omega), Nat.mod_eq_of_lt (by omega), e3, i32_in (by omega) (by omega)]
theorem b63 (c : UInt8) : bits .and .u8 (c.toNat : Int) 63 = ((c.toNat % 64 : Nat) : Int) := and63 ⟨c.toNat, c.toNat_lt⟩
theorem b192 (c : UInt8) : (bits .and .u8 (c.toNat : Int) 192 != 128) = !contB c := and192 ⟨c.toNat, c.toNat_lt⟩
theorem b31 (c : UInt8) : bits .and .u8 (c.toNat : Int) 31 = ((c.toNat % 32 : Nat) : Int) := and31 ⟨c.toNat, c.toNat_lt⟩
theorem b15 (c : UInt8) : bits .and .u8 (c.toNat : Int) 15 = ((c.toNat % 16 : Nat) : Int) := and15 ⟨c.toNat, c.toNat_lt⟩
theorem b7 (c : UInt8) : bits .and .u8 (c.toNat : Int) 7 = ((c.toNat % 8 : Nat) : Int) := and7 ⟨c.toNat, c.toNat_lt⟩
theorem cont_mod {c : UInt8} (h : contB c = true) : c.toNat % 64 = c.toNat - 128 := by
  unfold contB at h
  simp at h
  omega
/-- What follows: so many bytes. -/
def tailP : Nat → List UInt8 → Nat → Option Nat
  | 0, _, v => some v
  | _ + 1, [], _ => none
  | m + 1, c :: r, v => if contB c = true then tailP m r (v * 64 + (c.toNat - 128)) else none
set_option maxRecDepth 20000 in
theorem tTailL (l : List UInt8) (m : Nat) (hm : m ≤ l.length) (hm3 : m ≤ 3) : ∀ (d k v : Nat), k + d = m → ((k = 0 → v < 64) ∧ (k ≤ 1 → v < 4096) ∧ (k ≤ 2 → v < 262144)) →
    utf_tail_L1 l m v k = some (match tailP d (l.drop k) v with | some n => .inl (n : Int) | none => .inr ()) := by
  intro d
  induction d with
  | zero =>
    intro k v hk _
    rw [utf_tail_L1, ltI, decide_eq_false (by omega : ¬ k < m)]
    rfl
  | succ d ih =>
    intro k v hk hv
    have hkl : k < l.length := by omega
    have : decide ((k : Int) < (m : Int)) = true := decide_eq_true (by omega)
    rw [utf_tail_L1]
    simp only [this, if_true, idx_nat, getE hkl, bind_some', b192, b63]
    rw [or64 v _ (by omega) (Nat.mod_lt _ (by omega)), wr_succ (by omega), dropE hkl]
    unfold tailP
    cases hc : contB l[k] with
    | false => rfl
    | true =>
      rw [cont_mod hc]
      have hlt : l[k].toNat - 128 < 64 := by unfold contB at hc; simp at hc; omega
      have hv2 : (k + 1 = 0 → v * 64 + (l[k].toNat - 128) < 64) ∧ (k + 1 ≤ 1 → v * 64 + (l[k].toNat - 128) < 4096) ∧ (k + 1 ≤ 2 → v * 64 + (l[k].toNat - 128) < 262144) := by omega
      simp only [Bool.not_true, Bool.false_eq_true, if_false, if_true]
      exact ih (k + 1) _ (by omega) hv2
theorem tTail (l : List UInt8) (m v : Nat) (hm3 : m ≤ 3) (hv : v < 64) : utf_tail l v m = some (match (if l.length < m then none else tailP m l v) with | some n => ((n : Int), true) | none => (0, false)) := by
  rw [utf_tail, ltI]
  by_cases h : l.length < m
  · rw [decide_eq_true h, if_pos h]; rfl
  · rw [decide_eq_false h, if_neg h]
    have := tTailL l m (by omega) hm3 m 0 v (by omega) (by omega)
    rw [List.drop_zero] at this
    rw [show (0 : Int) = ((0 : Nat) : Int) from rfl, this]
    cases tailP m l v <;> rfl
theorem tIsR (n : Nat) : utf_is (n : Int) = some (runeB n) := by
  have a : decide ((n : Int) ≥ 0) = true := decide_eq_true (by omega)
  have b : decide ((n : Int) ≤ 1114111) = decide (n ≤ 1114111) := by
    by_cases h : n ≤ 1114111
    · rw [decide_eq_true h, decide_eq_true (by omega)]
    · rw [decide_eq_false h, decide_eq_false (by omega)]
  rw [utf_is, a, b, runeB]
  by_cases h1 : n < 55296
  · rw [decide_eq_true (show (n : Int) < 55296 by omega), decide_eq_true (show n ≤ 1114111 by omega), decide_eq_false (show ¬ 55296 ≤ n by omega)]; rfl
  · rw [decide_eq_false (show ¬ (n : Int) < 55296 by omega), decide_eq_true (show 55296 ≤ n by omega)]
    by_cases h2 : n ≤ 57343
    · rw [decide_eq_false (show ¬ (n : Int) > 57343 by omega), decide_eq_true h2, decide_eq_true (show n ≤ 1114111 by omega)]; rfl
    · rw [decide_eq_true (show (n : Int) > 57343 by omega), decide_eq_false h2]
      cases decide (n ≤ 1114111) <;> rfl
theorem ltC (c : UInt8) (k : Nat) : decide ((c.toNat : Int) < (k : Int)) = decide (c.toNat < k) := ltI _ _
theorem geC (c : UInt8) (k : Nat) : decide ((c.toNat : Int) ≥ (k : Int)) = decide (k ≤ c.toNat) := by
  by_cases h : k ≤ c.toNat
  · rw [decide_eq_true h, decide_eq_true (by omega)]
  · rw [decide_eq_false h, decide_eq_false (by omega)]
/-- What Next makes of a tail. -/
def endP (o : Option Nat) (least m : Nat) : Nat × Nat := match o with
  | some n => if least ≤ n ∧ runeB n = true then (n, m + 1) else (65533, 1)
  | none => (65533, 1)
set_option maxRecDepth 20000 in
theorem tNext (s : List UInt8) (k : Nat) (hk : k < s.length) (hs : s.length < 9223372036854775807) : utf_Next s k = some (((nextP (s.drop k)).1 : Int), ((nextP (s.drop k)).2 : Int)) := by
  have d1 : decide ((k : Int) < 0) = false := decide_eq_false (by omega)
  have d2 : decide ((k : Int) ≥ (s.length : Int)) = false := decide_eq_false (by omega)
  have hc := s[k].toNat_lt
  have hr : cutL s (wr ((k : Int) + 1)) (s.length : Int) = some (s.drop (k + 1)) := by
    rw [wr_succ (by omega), cutL_ok (by omega) (by omega) (by omega)]
    simp
  rw [utf_Next, d1, d2, hr, dropE hk]
  have l128 := ltC s[k] 128
  have g192 := geC s[k] 192
  have l224 := ltC s[k] 224
  have g224 := geC s[k] 224
  have l240 := ltC s[k] 240
  have g240 := geC s[k] 240
  have l248 := ltC s[k] 248
  have b1 : ∀ a b : Bool, (if a = true then some b else some false : Option Bool) = some (a && b) := fun a b => by cases a <;> rfl
  simp only [Bool.false_eq_true, if_false, bind_some', idx_nat, getE hk]
  rw [show (128 : Int) = ((128 : Nat) : Int) from rfl, show (192 : Int) = ((192 : Nat) : Int) from rfl, show (224 : Int) = ((224 : Nat) : Int) from rfl, show (240 : Int) = ((240 : Nat) : Int) from rfl, show (248 : Int) = ((248 : Nat) : Int) from rfl, l128, g192, l224, g224, l240, g240, l248]
  simp only [b1, bind_some']
  rw [nextP]
  unfold nextC
  have fin : ∀ (v least m : Nat), m ≤ 3 → v < 64 → (utf_tail (s.drop (k + 1)) (v : Int) (m : Int) >>= fun x10 =>
      (if (!x10.2) = true then some true else if decide (x10.1 < (least : Int)) = true then some true else utf_is x10.1 >>= fun x12 => some (!x12) : Option Bool) >>= fun o11 =>
      if o11 = true then some ((65533 : Int), (1 : Int)) else some (x10.1, wr ((m : Int) + 1))) =
      some (((endP (if (s.drop (k + 1)).length < m then none else tailP m (s.drop (k + 1)) v) least m).1 : Int), ((endP (if (s.drop (k + 1)).length < m then none else tailP m (s.drop (k + 1)) v) least m).2 : Int)) := fun v least m hm hv => by
    rw [tTail _ m v hm hv]
    cases (if (s.drop (k + 1)).length < m then none else tailP m (s.drop (k + 1)) v) with
    | none => rfl
    | some n =>
      simp only [bind_some', Bool.not_true, Bool.false_eq_true, if_false, ltI, tIsR, endP]
      by_cases h1 : n < least
      · rw [decide_eq_true h1, if_neg (fun h => absurd h.1 (by omega) : ¬ (least ≤ n ∧ runeB n = true))]; rfl
      · rw [decide_eq_false h1]
        cases hrn : runeB n with
        | true => rw [if_pos (⟨by omega, rfl⟩ : least ≤ n ∧ true = true), wr_succ (by omega)]; rfl
        | false => rw [if_neg (fun h => by cases h.2 : ¬ (least ≤ n ∧ false = true))]; rfl
  by_cases h1 : s[k].toNat < 128
  · rw [decide_eq_true h1, if_pos h1]
    simp only [if_true, bind_some']
    rw [i32_in (by omega) (by omega)]; rfl
  rw [decide_eq_false h1, if_neg h1]
  simp only [Bool.false_eq_true, if_false]
  have cc : ∀ c : UInt8, contB c = true → c.toNat - 128 < 64 := fun c h => by unfold contB at h; simp at h; omega
  by_cases h2 : 192 ≤ s[k].toNat ∧ s[k].toNat < 224
  · rw [decide_eq_true h2.1, decide_eq_true h2.2, if_pos h2, b31]
    simp only [Bool.and_true, if_true, bind_some']
    rw [i32_in (by omega) (by omega)]
    have f := fin (s[k].toNat % 32) 128 1 (by omega) (by omega)
    rw [show ((1 : Nat) : Int) = 1 from rfl] at f
    rw [f]
    have e : s[k].toNat % 32 = s[k].toNat - 192 := by omega
    rw [e]
    cases s.drop (k + 1) with
    | nil => rfl
    | cons c1 r1 =>
      simp only [List.length_cons, if_neg (by omega : ¬ r1.length + 1 < 1), tailP]
      cases h : contB c1 with
      | false => rfl
      | true =>
        have := cc c1 h
        have hr : runeB ((s[k].toNat - 192) * 64 + (c1.toNat - 128)) = true := by unfold runeB; rw [decide_eq_true (by omega), decide_eq_false (by omega)]; rfl
        simp only [if_true, endP, hr, and_true, true_and]
  rw [if_neg h2]
  have d2 : (decide (192 ≤ s[k].toNat) && decide (s[k].toNat < 224)) = false := by
    rw [Bool.and_eq_false_iff]
    by_cases h : 192 ≤ s[k].toNat
    · exact .inr (decide_eq_false (by omega))
    · exact .inl (decide_eq_false h)
  rw [d2]
  simp only [Bool.false_eq_true, if_false]
  by_cases h3 : 224 ≤ s[k].toNat ∧ s[k].toNat < 240
  · rw [decide_eq_true h3.1, decide_eq_true h3.2, if_pos h3, b15]
    simp only [Bool.and_true, if_true, bind_some']
    rw [i32_in (by omega) (by omega)]
    have f := fin (s[k].toNat % 16) 2048 2 (by omega) (by omega)
    rw [show ((2 : Nat) : Int) = 2 from rfl, show ((2048 : Nat) : Int) = 2048 from rfl] at f
    rw [f]
    have e : s[k].toNat % 16 = s[k].toNat - 224 := by omega
    rw [e]
    match s.drop (k + 1) with
    | [] => rfl
    | [c1] => rfl
    | c1 :: c2 :: r1 =>
      simp only [List.length_cons, if_neg (by omega : ¬ r1.length + 1 + 1 < 2), tailP]
      cases h : contB c1 with
      | false => rfl
      | true =>
        cases h' : contB c2 with
        | false => simp [endP]
        | true => simp only [if_true, endP, true_and]
  rw [if_neg h3]
  have d3 : (decide (224 ≤ s[k].toNat) && decide (s[k].toNat < 240)) = false := by
    rw [Bool.and_eq_false_iff]
    by_cases h : 224 ≤ s[k].toNat
    · exact .inr (decide_eq_false (by omega))
    · exact .inl (decide_eq_false h)
  rw [d3]
  simp only [Bool.false_eq_true, if_false]
  by_cases h4 : 240 ≤ s[k].toNat ∧ s[k].toNat < 248
  · rw [decide_eq_true h4.1, decide_eq_true h4.2, if_pos h4, b7]
    simp only [Bool.and_true, if_true, bind_some']
    rw [i32_in (by omega) (by omega)]
    have f := fin (s[k].toNat % 8) 65536 3 (by omega) (by omega)
    rw [show ((3 : Nat) : Int) = 3 from rfl, show ((65536 : Nat) : Int) = 65536 from rfl] at f
    rw [f]
    have e : s[k].toNat % 8 = s[k].toNat - 240 := by omega
    rw [e]
    match s.drop (k + 1) with
    | [] => rfl
    | [c1] => rfl
    | [c1, c2] => rfl
    | c1 :: c2 :: c3 :: r1 =>
      simp only [List.length_cons, if_neg (by omega : ¬ r1.length + 1 + 1 + 1 < 3), tailP]
      cases h : contB c1 with
      | false => rfl
      | true =>
        cases h' : contB c2 with
        | false => simp [endP]
        | true =>
          cases h'' : contB c3 with
          | false => simp [endP]
          | true => simp only [if_true, endP, true_and]
  rw [if_neg h4]
  have d4 : (decide (240 ≤ s[k].toNat) && decide (s[k].toNat < 248)) = false := by
    rw [Bool.and_eq_false_iff]
    by_cases h : 240 ≤ s[k].toNat
    · exact .inr (decide_eq_false (by omega))
    · exact .inl (decide_eq_false h)
  rw [d4]
  rfl
theorem nextP_size (l : List UInt8) (h : l ≠ []) : 1 ≤ (nextP l).2 ∧ (nextP l).2 ≤ l.length := by
  cases l with
  | nil => exact absurd rfl h
  | cons c r =>
    rw [nextP]
    unfold nextC
    split
    · simp
    · split
      · split
        · split <;> simp
        · simp
      · split
        · split
          · split <;> simp
          · simp
        · split
          · split
            · split <;> simp
            · simp
          · simp
end Go.Proofs.YteahaflhihioaaaDoor
end

section
namespace Go.Proofs.YteahaflhihioaaaDoor
open Go.RowKit

/-- A text's steps: the bytes of each. -/
def cutsF : Nat → List UInt8 → List (List UInt8)
  | 0, _ => []
  | n + 1, s => if s = [] then [] else s.take (nextP s).2 :: cutsF n (s.drop (nextP s).2)
def cutsP (s : List UInt8) : List (List UInt8) := cutsF s.length s
theorem cutsF_nil : ∀ n, cutsF n [] = []
  | 0 => rfl
  | _ + 1 => by rw [cutsF, if_pos rfl]
theorem cutsF_fuel : ∀ (n m : Nat) (s : List UInt8), s.length ≤ n → s.length ≤ m → cutsF n s = cutsF m s
  | 0, m, s, h, _ => by
    have : s = [] := List.length_eq_zero_iff.1 (by omega)
    subst this
    rw [cutsF_nil, cutsF_nil]
  | n + 1, 0, s, _, h => by
    have : s = [] := List.length_eq_zero_iff.1 (by omega)
    subst this
    rw [cutsF_nil, cutsF_nil]
  | n + 1, m + 1, s, h1, h2 => by
    rw [cutsF, cutsF]
    by_cases h : s = []
    · rw [if_pos h, if_pos h]
    · rw [if_neg h, if_neg h]
      have := nextP_size s h
      rw [cutsF_fuel n m _ (by rw [List.length_drop]; omega) (by rw [List.length_drop]; omega)]
theorem cutsP_cons (s : List UInt8) (h : s ≠ []) : cutsP s = s.take (nextP s).2 :: cutsP (s.drop (nextP s).2) := by
  have hs := nextP_size s h
  unfold cutsP
  conv => lhs; rw [show s.length = (s.length - 1) + 1 by omega]
  rw [cutsF, if_neg h, cutsF_fuel _ (s.drop (nextP s).2).length _ (by rw [List.length_drop]; omega) (Nat.le_refl _)]
theorem cutsF_flat : ∀ (n : Nat) (s : List UInt8), s.length ≤ n → (cutsF n s).flatten = s
  | 0, s, h => by
    have : s = [] := List.length_eq_zero_iff.1 (by omega)
    subst this; rfl
  | n + 1, s, h => by
    rw [cutsF]
    by_cases hs : s = []
    · rw [if_pos hs, hs]; rfl
    · rw [if_neg hs, List.flatten_cons, cutsF_flat n _ (by have := nextP_size s hs; rw [List.length_drop]; omega), List.take_append_drop]
theorem cutsP_flat (s : List UInt8) : (cutsP s).flatten = s := cutsF_flat _ s (Nat.le_refl _)
theorem cutsF_len : ∀ (n : Nat) (s : List UInt8), s.length ≤ n → (cutsF n s).length ≤ s.length
  | 0, s, h => by simp [cutsF]
  | n + 1, s, h => by
    rw [cutsF]
    by_cases hs : s = []
    · rw [if_pos hs]; simp
    · rw [if_neg hs, List.length_cons]
      have h1 := nextP_size s hs
      have h2 := cutsF_len n (s.drop (nextP s).2) (by rw [List.length_drop]; omega)
      rw [List.length_drop] at h2
      omega
theorem cutsP_len (s : List UInt8) : (cutsP s).length ≤ s.length := cutsF_len _ s (Nat.le_refl _)
/-- The places behind the steps. -/
def posL : Nat → List (List UInt8) → List Int
  | _, [] => []
  | k, c :: r => ((k + c.length : Nat) : Int) :: posL (k + c.length) r
theorem drop_ne {s : List UInt8} {k : Nat} (h : k < s.length) : s.drop k ≠ [] := fun e => by
  have := congrArg List.length e
  rw [List.length_drop, List.length_nil] at this
  omega
theorem bStepsL (s : List UInt8) (hs : s.length < 9000000000000) : ∀ n k, k ≤ s.length → s.length - k ≤ n → built_steps_1_L1 s k = some (posL k (cutsP (s.drop k)), ()) := by
  intro n
  induction n with
  | zero =>
    intro k h1 h2
    have hk : k = s.length := by omega
    subst hk
    rw [built_steps_1_L1, ltI, decide_eq_false (Nat.lt_irrefl _), List.drop_length]
    rfl
  | succ n ih =>
    intro k h1 h2
    by_cases hk : k < s.length
    · have hne := drop_ne hk
      have hz := nextP_size _ hne
      rw [List.length_drop] at hz
      rw [built_steps_1_L1, ltI, decide_eq_true hk, if_pos rfl, tNext s k hk (by omega), bind_some']
      have e : wr ((k : Int) + ((nextP (s.drop k)).2 : Int)) = ((k + (nextP (s.drop k)).2 : Nat) : Int) := by rw [wr_in (by omega) (by omega)]; rfl
      simp only [e]
      rw [ih (k + (nextP (s.drop k)).2) (by omega) (by omega), bind_some', cutsP_cons _ hne, posL, List.length_take, List.length_drop, Nat.min_eq_left hz.2, List.drop_drop]
    · have hk : k = s.length := by omega
      subst hk
      rw [built_steps_1_L1, ltI, decide_eq_false (Nat.lt_irrefl _), List.drop_length]
      rfl
theorem bSteps (s : List UInt8) (hs : s.length < 9000000000000) : built_steps_1 s = some (posL 0 (cutsP s), ()) := by
  unfold built_steps_1
  have := bStepsL s hs s.length 0 (Nat.zero_le _) (by omega)
  rw [show ((0 : Nat) : Int) = 0 from rfl, List.drop_zero] at this
  rw [this, bind_some', bind_some', List.append_nil]
theorem bCutL (x : List UInt8) : ∀ (cs : List (List UInt8)) (k n : Nat), n < 9223372036854775808 → ∃ o, built_cut_L1 x (posL k cs) n k = some o ∧
    (match o with | .inl y => y.2 | .inr y => y.2) = ((k + ((cs.take n).flatten).length : Nat) : Int)
  | [], k, n, hn => by
    refine ⟨.inl (n, k), ?_, by simp⟩
    rw [posL, built_cut_L1]
  | c :: r, k, 0, hn => by
    refine ⟨.inr (-1, k), ?_, by simp⟩
    rw [posL, built_cut_L1]
    rfl
  | c :: r, k, n + 1, hn => by
    obtain ⟨o, h1, h2⟩ := bCutL x r (k + c.length) n (by omega)
    refine ⟨o, ?_, by rw [h2, List.take_succ_cons, List.flatten_cons, List.length_append]; congr 1; omega⟩
    rw [posL, built_cut_L1]
    have e : wr (((n + 1 : Nat) : Int) - 1) = (n : Int) := by rw [wr_in (by omega) (by omega)]; omega
    rw [e, decide_eq_false (by omega)]
    exact h1
theorem bCut (s : List UInt8) (hs : s.length < 9000000000000) (n : Nat) (hn : n < 9223372036854775808) : built_cut s n = some ((((cutsP s).take n).flatten.length : Nat) : Int) := by
  unfold built_cut built_steps
  rw [bind_some', bSteps s hs, bind_some']
  obtain ⟨o, h1, h2⟩ := bCutL s (cutsP s) 0 n hn
  rw [show ((0 : Nat) : Int) = 0 from rfl] at h1
  rw [Nat.zero_add] at h2
  simp only [h1, bind_some']
  rw [← h2]
  cases o <;> rfl
theorem uAllL (s : List UInt8) (hs : s.length < 9000000000000) : ∀ n k, k ≤ s.length → s.length - k ≤ n → ∃ out, utf_all_1_L1 s k = some (out, ()) ∧ out.length = (cutsP (s.drop k)).length := by
  intro n
  induction n with
  | zero =>
    intro k h1 h2
    have hk : k = s.length := by omega
    subst hk
    refine ⟨[], ?_, by rw [List.drop_length]; rfl⟩
    rw [utf_all_1_L1, ltI, decide_eq_false (Nat.lt_irrefl _)]
    rfl
  | succ n ih =>
    intro k h1 h2
    by_cases hk : k < s.length
    · have hne := drop_ne hk
      have hz := nextP_size _ hne
      rw [List.length_drop] at hz
      have e : wr ((k : Int) + ((nextP (s.drop k)).2 : Int)) = ((k + (nextP (s.drop k)).2 : Nat) : Int) := by rw [wr_in (by omega) (by omega)]; rfl
      obtain ⟨out, h3, h4⟩ := ih (k + (nextP (s.drop k)).2) (by omega) (by omega)
      refine ⟨(((nextP (s.drop k)).1 : Int), ((nextP (s.drop k)).2 : Int)) :: out, ?_, ?_⟩
      · rw [utf_all_1_L1, ltI, decide_eq_true hk, if_pos rfl, tNext s k hk (by omega), bind_some']
        simp only [e, h3, bind_some']
      · rw [List.length_cons, h4, cutsP_cons _ hne, List.length_cons, List.drop_drop]
    · have hk : k = s.length := by omega
      subst hk
      refine ⟨[], ?_, by rw [List.drop_length]; rfl⟩
      rw [utf_all_1_L1, ltI, decide_eq_false (Nat.lt_irrefl _)]
      rfl
theorem uCountL (x : List UInt8) : ∀ (l : List (Int × Int)) (n : Nat), n + l.length < 9000000000000 → utf_Count_L1 x l n = some ((n + l.length : Nat) : Int)
  | [], n, _ => by rw [utf_Count_L1]; rfl
  | a :: r, n, h => by
    rw [List.length_cons] at h
    rw [utf_Count_L1]
    rw [wr_succ (by omega), uCountL x r (n + 1) (by omega), List.length_cons]
    congr 2; omega
theorem uCount (s : List UInt8) (hs : s.length < 9000000000000) : utf_Count s = some ((cutsP s).length : Int) := by
  unfold utf_Count utf_all utf_all_1
  rw [bind_some']
  obtain ⟨out, h1, h2⟩ := uAllL s hs s.length 0 (Nat.zero_le _) (by omega)
  rw [show ((0 : Nat) : Int) = 0 from rfl] at h1
  rw [List.drop_zero] at h2
  simp only [h1, bind_some', List.append_nil]
  have := cutsP_len s
  have h3 := uCountL s out 0 (by omega)
  rw [show ((0 : Nat) : Int) = 0 from rfl] at h3
  simp only [h3, bind_some', Nat.zero_add, h2]
theorem take_cuts (s : List UInt8) (n : Nat) : s.take ((cutsP s).take n).flatten.length = ((cutsP s).take n).flatten := by
  have h := cutsP_flat s
  conv => lhs; arg 2; rw [← h, ← List.take_append_drop n (cutsP s), List.flatten_append]
  rw [List.take_left']
  rfl
theorem drop_cuts (s : List UInt8) (n : Nat) : s.drop ((cutsP s).take n).flatten.length = ((cutsP s).drop n).flatten := by
  have h := cutsP_flat s
  conv => lhs; arg 2; rw [← h, ← List.take_append_drop n (cutsP s), List.flatten_append]
  rw [List.drop_left']
  rfl
end Go.Proofs.YteahaflhihioaaaDoor
end

section
namespace Go.Proofs.YteahaflhihioaaaDoor
open Go.RowKit

abbrev numV (n : Int) : api_Val := ⟨2, [], n, false, []⟩
abbrev txtV (s : List UInt8) : api_Val := ⟨1, s, 0, false, []⟩
/-- A text, or why it is none. -/
def lngP (s : List UInt8) : api_Val × Int := if 65536 < s.length then (val0, 204) else (txtV s, 0)
theorem gt16 (n : Nat) : decide ((n : Int) > 65536) = decide (65536 < n) := by
  by_cases h : 65536 < n
  · rw [decide_eq_true h, decide_eq_true (by omega)]
  · rw [decide_eq_false h, decide_eq_false (by omega)]
theorem long3 (s : List UInt8) : built_long_built_text_3 (s.length : Int) s = some (lngP s) := by
  unfold built_long_built_text_3 lngP
  rw [gt16]
  by_cases h : 65536 < s.length
  · rw [decide_eq_true h, if_pos rfl, if_pos h]
  · rw [decide_eq_false h, if_neg h]; rfl
theorem long1 (s : List UInt8) (a b : api_Val) (h : s.length + b.S.length ≤ 1000000000) : built_long_built_text_1 (wr ((s.length : Int) + (b.S.length : Int))) s [a, b] = some (lngP (s ++ b.S)) := by
  unfold built_long_built_text_1 lngP
  have e : wr ((s.length : Int) + (b.S.length : Int)) = (((s ++ b.S).length : Nat) : Int) := by rw [wr_in (by omega) (by omega), List.length_append]; rfl
  rw [e, gt16]
  by_cases h1 : 65536 < (s ++ b.S).length
  · rw [decide_eq_true h1, if_pos rfl, if_pos h1]
  · rw [decide_eq_false h1, if_neg h1]
    unfold built_text_1
    simp only [Bool.false_eq_true, if_false, idx_1, List.getElem?_cons_succ, List.getElem?_cons_zero, bind_some']
    rw [need_ok (by omega)]
    rfl
theorem replaceK_len (b c : List UInt8) (hb : b ≠ []) : ∀ (k : Nat) (s : List UInt8), Lib.count s b = k → (Lib.replaceK b c k s).length + k * b.length = s.length + k * c.length
  | 0, s, _ => by simp [Lib.replaceK]
  | k + 1, s, h => by
    obtain ⟨i, hi⟩ := Lib.index_of_count (s := s) (old := b) (by omega)
    have hr := Lib.index_room s b (by omega)
    rw [hi] at hr
    rw [Lib.count_hit hb hi] at h
    have ih := replaceK_len b c hb k (s.drop (i + b.length)) (by omega)
    rw [Lib.replaceK_hit b c k s i hi]
    simp only [List.length_append, List.length_take, List.length_drop] at ih ⊢
    rw [Nat.min_eq_left (by omega), Nat.add_mul, Nat.add_mul, Nat.one_mul, Nat.one_mul]
    omega
theorem repAll_eq (s b c : List UInt8) : Lib.replaceAll s b c = if b == c then s else Lib.replaceK b c (Lib.count s b) s := by
  unfold Lib.replaceAll Lib.replace Lib.replaceNum
  rw [if_pos (c := (-1 : Int) < 0 ∨ _) (.inl (by decide))]
theorem repAll_len (s b c : List UInt8) (hb : b ≠ []) : (Lib.replaceAll s b c).length + Lib.count s b * b.length = s.length + Lib.count s b * c.length := by
  rw [repAll_eq]
  by_cases h : (b == c) = true
  · rw [if_pos h, beq_iff_eq.1 h]
  · rw [if_neg h]; exact replaceK_len b c hb _ s rfl
theorem count_mul (b : List UInt8) (hb : b ≠ []) : ∀ (k : Nat) (s : List UInt8), Lib.count s b = k → k * b.length ≤ s.length
  | 0, s, _ => by simp
  | k + 1, s, h => by
    obtain ⟨i, hi⟩ := Lib.index_of_count (s := s) (old := b) (by omega)
    have hr := Lib.index_room s b (by omega)
    rw [hi] at hr
    rw [Lib.count_hit hb hi] at h
    have ih := count_mul b hb k (s.drop (i + b.length)) (by omega)
    rw [List.length_drop] at ih
    rw [Nat.add_mul, Nat.one_mul]
    omega
theorem count_le' (s b : List UInt8) (hb : b ≠ []) : Lib.count s b ≤ s.length := by
  have h := count_mul b hb _ s rfl
  have hp : 1 ≤ b.length := List.length_pos_iff.2 hb
  have := Nat.mul_le_mul_left (Lib.count s b) hp
  omega
theorem long2 (s b c : List UInt8) (hb : b ≠ []) (hs : s.length ≤ 100000) (hc : c.length ≤ 100000) (hbl : b.length ≤ 100000) :
    (strings_Count s b >>= fun x22 => built_long_built_text_2 (wr ((s.length : Int) + (wr (x22 * (wr ((c.length : Int) - (b.length : Int))))))) s b c >>= fun x23 => some (x23.1, x23.2)) = some (lngP (Lib.replaceAll s b c)) := by
  have hn := count_le' s b hb
  have hm := count_mul b hb _ s rfl
  have hl := repAll_len s b c hb
  have hp : 1 ≤ b.length := List.length_pos_iff.2 hb
  have hx : Lib.count s b * c.length ≤ 100000 * 100000 := Nat.mul_le_mul (by omega) hc
  have hcb : Lib.countB ⟨s.toArray⟩ ⟨b.toArray⟩ = Lib.count s b := by show Lib.count _ _ = _; simp
  unfold strings_Count
  rw [need_ok (by omega), bind_some', need_ok hp, bind_some', bind_some', hcb]
  have e : wr ((s.length : Int) + (wr (((Lib.count s b : Nat) : Int) * (wr ((c.length : Int) - (b.length : Int)))))) = ((Lib.replaceAll s b c).length : Int) := by
    have e1 : wr ((c.length : Int) - (b.length : Int)) = (c.length : Int) - (b.length : Int) := wr_in (by omega) (by omega)
    have e2 : ((Lib.count s b : Nat) : Int) * ((c.length : Int) - (b.length : Int)) = ((Lib.count s b * c.length : Nat) : Int) - ((Lib.count s b * b.length : Nat) : Int) := by
      rw [Int.mul_sub]; push_cast; rfl
    rw [e1, e2]
    generalize Lib.count s b * c.length = A at *
    generalize Lib.count s b * b.length = B at *
    generalize (Lib.replaceAll s b c).length = R at *
    clear e1 e2 hcb
    rw [wr_in (n := (A : Int) - (B : Int)) (by omega) (by omega), wr_in (by omega) (by omega)]
    omega
  rw [e]
  unfold built_long_built_text_2 lngP
  rw [gt16]
  by_cases h1 : 65536 < (Lib.replaceAll s b c).length
  · rw [decide_eq_true h1, if_pos rfl, if_pos h1]; rfl
  · rw [decide_eq_false h1, if_neg h1]
    unfold built_text_2 strings_ReplaceAll
    simp only [Bool.false_eq_true, if_false]
    rw [need_ok (by omega), bind_some', need_ok hp, bind_some', need_ok (by rw [hcb]; omega)]
    rfl
def addP (a b : Int) : Int := if a + b > 9223372036854775807 then 9223372036854775807 else if a + b < -9223372036854775808 then -9223372036854775808 else a + b
def inI (n : Int) : Prop := -9223372036854775808 ≤ n ∧ n ≤ 9223372036854775807
theorem wr_hi {n : Int} (h1 : 9223372036854775808 ≤ n) (h2 : n ≤ 18446744073709551615) : wr n = n - 18446744073709551616 := by
  simp [wr, IntKind.wrap, IntKind.bits, IntKind.signed]
  omega
theorem wr_lo {n : Int} (h1 : n < -9223372036854775808) (h2 : -18446744073709551616 ≤ n) : wr n = n + 18446744073709551616 := by
  simp [wr, IntKind.wrap, IntKind.bits, IntKind.signed]
  omega
theorem bAdd (a b : Int) (ha : inI a) (hb : inI b) : built_add a b = some (addP a b) := by
  obtain ⟨a1, a2⟩ := ha
  obtain ⟨b1, b2⟩ := hb
  unfold built_add built_within_int addP
  by_cases h1 : a + b > 9223372036854775807
  · rw [if_pos h1, wr_hi (by omega) (by omega), decide_eq_true (show b > 0 by omega), if_pos rfl, decide_eq_true (by omega)]; rfl
  · rw [if_neg h1]
    by_cases h2 : a + b < -9223372036854775808
    · rw [if_pos h2, wr_lo (by omega) (by omega), decide_eq_false (show ¬ b > 0 by omega), decide_eq_true (show b < 0 by omega)]
      simp only [Bool.false_eq_true, if_false, bind_some', if_true]
      rw [decide_eq_true (by omega)]; rfl
    · rw [if_neg h2, wr_in (by omega) (by omega)]
      by_cases h3 : b > 0
      · rw [decide_eq_true h3, if_pos rfl, decide_eq_false (by omega), decide_eq_false (by omega)]; rfl
      · rw [decide_eq_false h3]
        simp only [Bool.false_eq_true, if_false, bind_some']
        by_cases h4 : b < 0
        · rw [decide_eq_true h4, if_pos rfl, decide_eq_false (by omega)]; rfl
        · rw [decide_eq_false h4]; rfl
end Go.Proofs.YteahaflhihioaaaDoor
end

section
namespace Go.Proofs.YteahaflhihioaaaDoor
open Go.RowKit

theorem idx_2 {α : Type} (l : List α) : idx l 2 = l[2]? := idx_nat l 2
theorem clamp0 (n : Int) : (if 0 > n then 0 else n) = ((n.toNat : Nat) : Int) := by split <;> omega

theorem do_size (a : api_Val) (ha : a.S.length ≤ 100000) : built_do [115, 105, 122, 101] [a] = some (numV (cutsP a.S).length, 0) := by
  simp [built_do, uCount a.S (by omega), schema_Number]
theorem flat_take (l : List (List UInt8)) (n : Nat) : (l.take n).flatten.length ≤ l.flatten.length := by
  conv => rhs; rw [← List.take_append_drop n l, List.flatten_append, List.length_append]
  omega
theorem do_first (a b : api_Val) (ha : a.S.length ≤ 100000) (hb : b.N ≤ 9223372036854775807) : built_do [102, 105, 114, 115, 116] [a, b] = some (lngP ((cutsP a.S).take b.N.toNat).flatten) := by
  have h1 := bCut a.S (by omega) b.N.toNat (by omega)
  have h3 := flat_take (cutsP a.S) b.N.toNat
  rw [cutsP_flat] at h3
  have h2 : cutL a.S 0 (((((cutsP a.S).take b.N.toNat).flatten).length : Nat) : Int) = some ((cutsP a.S).take b.N.toNat).flatten := by
    rw [cutL_ok (by omega) (by omega) (by omega)]
    show some ((a.S.take _).drop 0) = _
    rw [List.drop_zero, Int.toNat_natCast, take_cuts]
  simp only [← clamp0] at h1
  have e : built_do [102, 105, 114, 115, 116] [a, b] = built_text [102, 105, 114, 115, 116] [a, b] >>= fun x53 => some (x53.1, x53.2) := rfl
  rw [e]
  have e2 : built_text [102, 105, 114, 115, 116] [a, b] = some (lngP ((cutsP a.S).take b.N.toNat).flatten) := by
    unfold built_text
    simp only [idx_0, idx_1, List.getElem?_cons_zero, List.getElem?_cons_succ, bind_some', h1, h2]
    simp [long3]
  rw [e2]; rfl
theorem do_last (a b : api_Val) (ha : a.S.length ≤ 100000) (hb : b.N ≤ 9223372036854775807) : built_do [108, 97, 115, 116] [a, b] = some (lngP ((cutsP a.S).drop ((cutsP a.S).length - min b.N.toNat (cutsP a.S).length)).flatten) := by
  have hc := cutsP_len a.S
  have e0 : (wr (((cutsP a.S).length : Int) - (if ((cutsP a.S).length : Int) < (if 0 > b.N then 0 else b.N) then ((cutsP a.S).length : Int) else (if 0 > b.N then 0 else b.N)))) = (((cutsP a.S).length - min b.N.toNat (cutsP a.S).length : Nat) : Int) := by
    rw [clamp0]
    by_cases hlt : (cutsP a.S).length < b.N.toNat
    · rw [if_pos (by omega), Nat.min_eq_right (by omega), wr_in (by omega) (by omega)]; omega
    · rw [if_neg (by omega), Nat.min_eq_left (by omega), wr_in (by omega) (by omega)]; omega
  have h1 := bCut a.S (by omega) ((cutsP a.S).length - min b.N.toNat (cutsP a.S).length) (by omega)
  have h3 := flat_take (cutsP a.S) ((cutsP a.S).length - min b.N.toNat (cutsP a.S).length)
  rw [cutsP_flat] at h3
  have h2 : cutL a.S (((((cutsP a.S).take ((cutsP a.S).length - min b.N.toNat (cutsP a.S).length)).flatten).length : Nat) : Int) (a.S.length : Int) = some ((cutsP a.S).drop ((cutsP a.S).length - min b.N.toNat (cutsP a.S).length)).flatten := by
    rw [cutL_ok (by omega) (by omega) (by omega), Int.toNat_natCast, Int.toNat_natCast, List.take_length, drop_cuts]
  rw [← e0] at h1
  have e : built_do [108, 97, 115, 116] [a, b] = built_text [108, 97, 115, 116] [a, b] >>= fun x53 => some (x53.1, x53.2) := rfl
  rw [e]
  have e2 : built_text [108, 97, 115, 116] [a, b] = some (lngP ((cutsP a.S).drop ((cutsP a.S).length - min b.N.toNat (cutsP a.S).length)).flatten) := by
    have hu := uCount a.S (by omega)
    unfold built_text
    simp only [idx_0, idx_1, List.getElem?_cons_zero, List.getElem?_cons_succ, bind_some', hu, h1, h2]
    simp [long3]
  rw [e2]; rfl
theorem do_cat (a b : api_Val) (ha : a.S.length ≤ 100000) (hb : b.S.length ≤ 100000) : built_do [99, 97, 116] [a, b] = some (lngP (a.S ++ b.S)) := by
  have h1 := long1 a.S a b (by omega)
  simp [built_do, built_text, h1]
theorem do_replace (a b c : api_Val) (ha : a.S.length ≤ 100000) (hb : b.S.length ≤ 100000) (hc : c.S.length ≤ 100000) : built_do [114, 101, 112, 108, 97, 99, 101] [a, b, c] = some (lngP (if b.S = [] then a.S else Lib.replaceAll a.S b.S c.S)) := by
  by_cases h : b.S = []
  · simp [built_do, built_text, h, idx_2, long3 a.S]
  · have h1 := long2 a.S b.S c.S h ha hc hb
    rw [if_neg h]
    have e : built_do [114, 101, 112, 108, 97, 99, 101] [a, b, c] = built_text [114, 101, 112, 108, 97, 99, 101] [a, b, c] >>= fun x53 => some (x53.1, x53.2) := rfl
    rw [e]
    have e2 : built_text [114, 101, 112, 108, 97, 99, 101] [a, b, c] = some (lngP (Lib.replaceAll a.S b.S c.S)) := by
      rw [← h1]
      have hb0 : (b.S == []) = false := by simpa using h
      simp [built_text, idx_2, h]
      cases strings_Count a.S b.S with
      | none => rfl
      | some n =>
        simp only [Option.bind_some]
        cases built_long_built_text_2 (wr ((a.S.length : Int) + wr (n * wr ((c.S.length : Int) - (b.S.length : Int))))) a.S b.S c.S with
        | none => rfl
        | some v => obtain ⟨⟨_, _, _, _, _⟩, _⟩ := v; rfl
    rw [e2]; rfl
theorem do_get (a b : api_Val) (hf : few a) : built_do [103, 101, 116] [a, b] = some (lngP (findP a b.S).1) := by
  simp [built_do, built_text, sFind a b.S hf, long3]
theorem do_add (a b : api_Val) (ha : inI a.N) (hb : inI b.N) : built_do [97, 100, 100] [a, b] = some (numV (addP a.N b.N), 0) := by
  simp [built_do, bAdd a.N b.N ha hb, schema_Number]
theorem bKindsL (n : List UInt8) (l : List api_Val) (hl : l.length ≤ 65536) : ∀ k, k ≤ l.length → ∀ acc : List Int, acc.length = k → built_Call_L1 n l acc k = some (acc ++ (l.drop k).map (·.K)) := by
  refine upto ?_ fun k hk ih => ?_
  · intro acc _
    rw [built_Call_L1, ltI, decide_eq_false (Nat.lt_irrefl _), List.drop_length]; simp
  · intro acc ha
    rw [built_Call_L1, ltI, decide_eq_true hk, if_pos rfl, idx_nat, getE hk, bind_some', appL_ok (by simp only [List.length_singleton]; omega) (by simp only [List.length_singleton]; omega), bind_some', wr_succ (by omega), ih _ (by rw [List.length_append, ha]; rfl), dropE hk]
    simp only [List.map_cons, List.append_assoc, List.singleton_append]
theorem bConfL (l : List api_Val) (hl : l.length ≤ 65536) (hf : fews l) : ∀ k, k ≤ l.length → ∃ o, slices_IndexFunc_api_Val_api_Val_built_Call_1_L1 l k = some o ∧ (match o with | .inl _ => (l.drop k).all cnf = true | .inr j => 0 ≤ j ∧ (l.drop k).all cnf = false) := by
  refine upto ?_ fun k hk ih => ?_
  · rw [slices_IndexFunc_api_Val_api_Val_built_Call_1_L1, ltI, decide_eq_false (Nat.lt_irrefl _), List.drop_length]
    exact ⟨.inl (), rfl, rfl⟩
  · rw [slices_IndexFunc_api_Val_api_Val_built_Call_1_L1, ltI, decide_eq_true hk, if_pos rfl, idx_nat, getE hk, bind_some', built_Call_1, sIs _ (fews_mem hf _ (List.getElem_mem hk)), bind_some', bind_some', dropE hk, List.all_cons]
    cases hc : cnf l[k] with
    | false => exact ⟨.inr k, rfl, by omega, rfl⟩
    | true =>
      obtain ⟨o, h1, h2⟩ := ih
      refine ⟨o, ?_, by simpa using h2⟩
      rw [wr_succ (by omega)]
      exact h1
theorem bConf (l : List api_Val) (hl : l.length ≤ 65536) (hf : fews l) : slices_ContainsFunc_api_Val_api_Val_built_Call_1 l = some (!(l.all cnf)) := by
  unfold slices_ContainsFunc_api_Val_api_Val_built_Call_1 slices_IndexFunc_api_Val_api_Val_built_Call_1
  obtain ⟨o, h1, h2⟩ := bConfL l hl hf 0 (Nat.zero_le _)
  rw [show ((0 : Nat) : Int) = 0 from rfl] at h1
  rw [h1]
  cases o with
  | inl _ => simp only [List.drop_zero] at h2; rw [h2]; rfl
  | inr j => simp only [List.drop_zero] at h2; rw [h2.2]; simp [h2.1]
theorem bCall (n : List UInt8) (l : List api_Val) (hl : l.length ≤ 65536) (hf : fews l) : built_Call n l = if (callP n (l.map (·.K))).2 = true ∧ l.all cnf = true then built_do n l else some (val0, 201) := by
  unfold built_Call
  have h1 := bKindsL n l hl 0 (Nat.zero_le _) [] rfl
  rw [List.drop_zero, List.nil_append, show ((0 : Nat) : Int) = 0 from rfl] at h1
  rw [h1, bind_some', kind_Call, bind_some', bConf l hl hf]
  cases hc : (callP n (l.map (·.K))).2 with
  | false => simp
  | true =>
    cases ha : l.all cnf with
    | false => simp
    | true =>
      simp only [Bool.not_true, Bool.false_eq_true, if_false, bind_some', and_self, if_true]
      cases built_do n l <;> rfl
end Go.Proofs.YteahaflhihioaaaDoor
end

section
namespace Go.Proofs.YteahaflhihioaaaDoor
open Go.RowKit

theorem cnf_txt (s : List UInt8) : cnf (txtV s) = true := by rw [cnf_eq]; simp [plainB]
theorem cnf_num (n : Int) : cnf (numV n) = true := by rw [cnf_eq]; simp [plainB]
theorem few_txt (s : List UInt8) : few (txtV s) := by simp [few, fews]
theorem few_num (n : Int) : few (numV n) := by simp [few, fews]
theorem lngP_ok (s : List UInt8) (h : s.length ≤ 65536) : lngP s = (txtV s, 0) := by rw [lngP, if_neg (by omega)]
theorem c_size (s : List UInt8) (h : s.length ≤ 100000) : built_Call [115, 105, 122, 101] [txtV s] = some (numV (cutsP s).length, 0) := by
  rw [bCall _ [txtV s] (by show _ ≤ _; simp) ⟨few_txt s, True.intro⟩, if_pos ⟨show (callP [115, 105, 122, 101] [1]).2 = true by decide +kernel, by rw [List.all_cons, cnf_txt]; rfl⟩]
  exact do_size (txtV s) h
theorem c_first (s : List UInt8) (n : Int) (h : s.length ≤ 100000) (hn : n ≤ 9223372036854775807) : built_Call [102, 105, 114, 115, 116] [txtV s, numV n] = some (lngP ((cutsP s).take n.toNat).flatten) := by
  rw [bCall _ [txtV s, numV n] (by show _ ≤ _; simp) ⟨few_txt s, few_num n, True.intro⟩, if_pos ⟨show (callP [102, 105, 114, 115, 116] [1, 2]).2 = true by decide +kernel, by rw [List.all_cons, List.all_cons, cnf_txt, cnf_num]; rfl⟩]
  exact do_first (txtV s) (numV n) h hn
theorem c_last (s : List UInt8) (n : Int) (h : s.length ≤ 100000) (hn : n ≤ 9223372036854775807) : built_Call [108, 97, 115, 116] [txtV s, numV n] = some (lngP ((cutsP s).drop ((cutsP s).length - min n.toNat (cutsP s).length)).flatten) := by
  rw [bCall _ [txtV s, numV n] (by show _ ≤ _; simp) ⟨few_txt s, few_num n, True.intro⟩, if_pos ⟨show (callP [108, 97, 115, 116] [1, 2]).2 = true by decide +kernel, by rw [List.all_cons, List.all_cons, cnf_txt, cnf_num]; rfl⟩]
  exact do_last (txtV s) (numV n) h hn
theorem c_cat (s t : List UInt8) (h : s.length ≤ 100000) (h2 : t.length ≤ 100000) : built_Call [99, 97, 116] [txtV s, txtV t] = some (lngP (s ++ t)) := by
  rw [bCall _ [txtV s, txtV t] (by show _ ≤ _; simp) ⟨few_txt s, few_txt t, True.intro⟩, if_pos ⟨show (callP [99, 97, 116] [1, 1]).2 = true by decide +kernel, by rw [List.all_cons, List.all_cons, cnf_txt, cnf_txt]; rfl⟩]
  exact do_cat (txtV s) (txtV t) h h2
theorem c_replace (s b c : List UInt8) (h : s.length ≤ 100000) (h2 : b.length ≤ 100000) (h3 : c.length ≤ 100000) : built_Call [114, 101, 112, 108, 97, 99, 101] [txtV s, txtV b, txtV c] = some (lngP (if b = [] then s else Lib.replaceAll s b c)) := by
  rw [bCall _ [txtV s, txtV b, txtV c] (by show _ ≤ _; simp) ⟨few_txt s, few_txt b, few_txt c, True.intro⟩, if_pos ⟨show (callP [114, 101, 112, 108, 97, 99, 101] [1, 1, 1]).2 = true by decide +kernel, by rw [List.all_cons, List.all_cons, List.all_cons, cnf_txt, cnf_txt, cnf_txt]; rfl⟩]
  exact do_replace (txtV s) (txtV b) (txtV c) h h2 h3
theorem c_add (a b : Int) (ha : inI a) (hb : inI b) : built_Call [97, 100, 100] [numV a, numV b] = some (numV (addP a b), 0) := by
  rw [bCall _ [numV a, numV b] (by show _ ≤ _; simp) ⟨few_num a, few_num b, True.intro⟩, if_pos ⟨show (callP [97, 100, 100] [2, 2]).2 = true by decide +kernel, by rw [List.all_cons, List.all_cons, cnf_num, cnf_num]; rfl⟩]
  exact do_add (numV a) (numV b) ha hb
theorem cnf_nop : cnf ⟨8, [], 0, false, []⟩ = true := by rw [cnf_eq]; simp [plainB, elemP, cnfA]
theorem c_get : built_Call [103, 101, 116] [⟨8, [], 0, false, []⟩, txtV [120]] = some (txtV [], 0) := by
  have hf : few ⟨8, [], 0, false, []⟩ := by simp [few, fews]
  rw [bCall _ [⟨8, [], 0, false, []⟩, txtV [120]] (by show _ ≤ _; simp) ⟨hf, few_txt _, True.intro⟩, if_pos ⟨show (callP [103, 101, 116] [8, 1]).2 = true by decide +kernel, by rw [List.all_cons, List.all_cons, cnf_txt, cnf_nop]; rfl⟩, do_get _ _ hf]
  have e : findP ⟨8, [], 0, false, []⟩ [120] = ([], false) := by
    unfold findP
    rw [if_pos ⟨rfl, cnf_nop⟩]
    rfl
  show some (lngP (findP ⟨8, [], 0, false, []⟩ [120]).1) = _
  rw [e]; rfl
theorem awake31 : nunciolaw31_awake = some true := by
  have h1 := c_first [104, 195, 169, 108, 108, 111] 2 (by decide) (by decide)
  rw [show ((cutsP [104, 195, 169, 108, 108, 111]).take (2 : Int).toNat).flatten = [104, 195, 169] by decide +kernel] at h1
  have h2 := c_replace [97, 97, 97] [97, 97] [98] (by decide) (by decide) (by decide)
  rw [show (if ([97, 97] : List UInt8) = [] then ([97, 97, 97] : List UInt8) else Lib.replaceAll [97, 97, 97] [97, 97] [98]) = [98, 97] by decide +kernel] at h2
  have h3 := c_add 9223372036854775807 1 (by constructor <;> decide) (by constructor <;> decide)
  rw [show addP 9223372036854775807 1 = 9223372036854775807 by decide +kernel] at h3
  unfold nunciolaw31_awake
  simp only [R16_Text, nunciolaw31_number, bind_some', h1, h2, h3, c_get]
  rfl
theorem cutMin (s : List UInt8) (n : Nat) : cutL s 0 (if (n : Int) < (s.length : Int) then (n : Int) else (s.length : Int)) = some (s.take n) := by
  by_cases h : n < s.length
  · rw [if_pos (by omega), cutL_ok (by omega) (by omega) (by omega)]; simp
  · rw [if_neg (by omega), cutL_ok (by omega) (by omega) (by omega)]
    simp only [Int.toNat_natCast, Int.toNat_zero, List.drop_zero, List.take_length]
    rw [List.take_of_length_le (by omega)]
theorem lawBuiltCuts (s : List UInt8) (p : Int) (h0 : 0 ≤ p) (h1 : p < 65536) : nunciolaw31_BuiltCuts s p = some true := by
  unfold nunciolaw31_BuiltCuts
  have ec := cutMin s 200
  rw [show ((200 : Nat) : Int) = 200 from rfl] at ec
  rw [ec, bind_some']
  have hx : (s.take 200).length ≤ 200 := by rw [List.length_take]; omega
  generalize s.take 200 = x at hx
  have hc := cutsP_len x
  simp only [R16_Text, nunciolaw31_number, bind_some', c_size x (by omega)]
  generalize hm : (cutsP x).length = m at hc
  have e1 : decide ((m : Int) < 0) = false := decide_eq_false (by omega)
  have e2 : wr ((m : Int) + 1) = ((m + 1 : Nat) : Int) := wr_succ (by omega)
  obtain ⟨q, rfl⟩ := Int.eq_ofNat_of_zero_le h0
  have e3 : (wr (q : Int)).tmod ((m + 1 : Nat) : Int) = ((q % (m + 1) : Nat) : Int) := by
    rw [wr_in (by omega) (by omega), Int.tmod_eq_emod_of_nonneg (by omega)]; rfl
  have hk : q % (m + 1) ≤ m := Nat.le_of_lt_succ (Nat.mod_lt _ (by omega))
  generalize q % (m + 1) = k at hk e3
  have e4 : wr ((m : Int) - (k : Int)) = ((m - k : Nat) : Int) := by rw [wr_in (by omega) (by omega)]; omega
  simp only [e1, e2, e3, e4, bne_self_eq_false, Bool.false_eq_true, if_false, bind_some']
  rw [need_ok (by omega), bind_some', c_first x k (by omega) (by omega), bind_some', c_last x _ (by omega) (by omega), bind_some', Int.toNat_natCast, Int.toNat_natCast, hm]
  have hj : m - min (m - k) m = k := by omega
  rw [hj]
  have hf := cutsP_flat x
  rw [← List.take_append_drop k (cutsP x), List.flatten_append] at hf
  have hfl := congrArg List.length hf
  rw [List.length_append] at hfl
  rw [lngP_ok _ (by omega), lngP_ok _ (by omega)]
  simp only
  rw [c_cat _ _ (by omega) (by omega), hf, bind_some', lngP_ok _ (by omega), awake31]
  simp
end Go.Proofs.YteahaflhihioaaaDoor
end

section
namespace Go.Proofs.YteahaflhihioaaaDoor
open Go.ChangeShapes Go.WideShapes Go.ChangeAt Go.RowKit
open Go.ChangeMaps (setBlock shut_map_nil open_string shut_string keptBut_setBlock frozen?_setBlock heap_setBlock_same)

set_option maxRecDepth 100000 in
theorem ty_string {xs : List V} (h : Ty Tryd.prog 9 xs) : ∃ v : List UInt8, xs = cStr v ∧ v.length ≤ 9223372036854775807 := by
  obtain ⟨l, rfl, hl⟩ := h.asStr Tryd.underlying9
  exact ⟨l, rfl, hl⟩
set_option maxRecDepth 100000 in
theorem ty_uint16 {xs : List V} (h : Ty Tryd.prog 28 xs) : ∃ v : Int, xs = (cNum .u16) v ∧ 0 ≤ v ∧ v ≤ 65535 := by
  obtain ⟨n, rfl, hw⟩ := h.asInt Tryd.underlying28
  refine ⟨n, rfl, ?_⟩
  simp [Lit.wf, IntKind.min, IntKind.max, IntKind.signed, IntKind.bits] at hw
  omega
set_option maxRecDepth 100000 in
theorem law_builtCuts_args (x0 : V) (x1 : V) (y0 : ArgTy Tryd.prog 9 x0) (y1 : ArgTy Tryd.prog 28 x1) : PCall Tryd.prog 4 [x0, x1] (.p (bV true)) := by
  obtain ⟨z0, ez0, hz0⟩ : ∃ v : (List UInt8), [x0] = cStr v ∧ v.length ≤ 9223372036854775807 := by
    rcases y0 with ⟨xs, _, _, fs, h⟩ | ⟨h, -⟩
    · rw [Tryd.underlying9] at h; cases h
    · exact ty_string h
  cases ez0
  obtain ⟨z1, ez1, hz1⟩ : ∃ v : Int, [x1] = (cNum .u16) v ∧ 0 ≤ v ∧ v ≤ 65535 := by
    rcases y1 with ⟨xs, _, _, fs, h⟩ | ⟨h, -⟩
    · rw [Tryd.underlying28] at h; cases h
    · exact ty_uint16 h
  cases ez1
  have hlaw : nunciolaw31_BuiltCuts z0 z1 = some true := by
    apply lawBuiltCuts <;> omega
  exact nunciolaw31_BuiltCuts_ok z0 z1 true hlaw
theorem handed_tied {H : Type} {enc : TypeId × Value → H} {a : Assume} {C : Checked} {os : Os} {f : FuncId} {fn : Func} {s : ChangeSpec} {conds : List PathCond} {apart fresh handsOn again : Bool} {X : World → Array Value → Prop}
    (own : ownKnob C.prog.godebug = none) (started : os.Started) (noInit : C.prog.inits.idxOf? f = none) (hfn : C.prog.funcs[f]? = some fn)
    (witness : ∃ (w : World) (tape : Tape) (i : Input), w.os = os ∧ (w.forCall tape i).Shaped C.prog ∧ i.vars = [] ∧ Input.okWide C.prog (w.forCall tape i) .any w.heap.size f i ∧
      ((s.pre enc C.prog fn conds apart (w.forCall tape i).memory i.args ∧ X (w.forCall tape i).memory i.args) ∧ sizedMet enc C.prog fn (OpenSpec.ofChange s) apart (w.forCall tape i).memory i.args) ∧ a.holds C.prog (lone (Frame.enter C.prog f i.args .normal) [] (w.forCall tape i)))
    (contract : ∀ (W : World) (base : Nat) (args : Array Value) (ds gs : List (DataW H)) (before : List MemPlace),
      (∀ (j : Nat) t v, fn.params[j]? = some t → args[j]? = some v → Value.okWide C.prog W .any base t v) →
      DataW.Whole enc C.prog fn.params.toList s.vars apart W args.toList ds gs before →
      conds.all (PathCond.test C.prog ⟨fn.params.toList, ds, s.plain.varTypes C.prog, gs⟩) = true →
      W.ShapedOpen C.prog →
      Calls C.prog f args W fun e W' => ∃ v, e = .returned v ∧ s.post enc C.prog fn apart fresh handsOn again W args v W') :
    ReturnsInHanded a C os f .any (fun w args => (s.pre enc C.prog fn conds apart w args ∧ X w args) ∧ sizedMet enc C.prog fn (OpenSpec.ofChange s) apart w args) (s.post enc C.prog fn apart fresh handsOn again) := by
  refine returnsInHanded_of_calls own started noInit witness ?_
  intro w tape i _ hsh _ hok hpre _
  obtain ⟨_, _, _, fn', hfn', _, _, _, _, hval⟩ := hok
  have e : fn' = fn := Option.some.inj (hfn'.symm.trans hfn)
  subst e
  obtain ⟨⟨⟨ds, gs, before, hw, hc⟩, hx⟩, hz⟩ := hpre
  have hw' := DataW.Whole.of_heap (w' := w.forCall tape i) (by rfl) hw
  refine (contract (w.forCall tape i) w.heap.size i.args ds gs before hval hw' hc hsh).mono fun e W' ⟨v, he, hp⟩ => ?_
  subst he
  exact ChangeSpec.post_blind hp
theorem fragBuiltCuts : Frag Tryd.prog [9, 28] = true := by decide +kernel
theorem laidBuiltCuts : laidOutB Tryd.prog = true := by kernel_rfl
set_option maxRecDepth 100000 in
theorem builtCuts_lifted (os : Os) (started : os.Started) (H : Type) (enc : TypeId × Value → H) :
    ReturnsInHanded {} Tryd.checked os 4 .any (fun w args => (Rows.builtCutsSpec.pre enc Tryd.prog Tryd.f4 Rows.builtCutsRow.domain false w args ∧ laidMetH Tryd.prog Rows.builtCutsRow.laid w) ∧ sizedMet enc Tryd.prog Tryd.f4 (OpenSpec.ofChange Rows.builtCutsSpec) false w args) (Rows.builtCutsSpec.post enc Tryd.prog Tryd.f4 false true false false) := by
  refine handed_tied (C := Tryd.checked) (X := fun w _ => laidMetH Tryd.prog Rows.builtCutsRow.laid w) Tryd.own started (by kernel_rfl) Tryd.func4
    (ChangeSpec.witness_shaped (enc := enc) (C := Tryd.checked) (os := os) (X := fun w _ => laidMetH Tryd.prog Rows.builtCutsRow.laid w) false (World.laidAll Tryd.prog os Rows.builtCutsRow.laid) #[.string ByteArray.empty, .int .u16 0] 8 (World.laidAll_os _ _ _)
      (World.shaped_of_ZipB (by kernel_rfl) (by kernel_rfl)) (by kernel_rfl) (by kernel_rfl) (by kernel_rfl)
      (by rw [MakeChecks.laidMetH_plain _ _ _ (by kernel_rfl)]; exact laidMet_laidAll _ (by kernel_rfl) (by kernel_rfl))) ?_
  intro W base args ds gs before hval0 hW hcnd hsh
  have hval : ∀ (j : Nat) t v, Tryd.f4.params[j]? = some t → args[j]? = some v → Value.okWide Tryd.prog W .any base t v := hval0
  have hW' := hW
  obtain ⟨p, q, hA0, hV, rfl, hfz, hnd⟩ := hW
  have hA : DataW.TrodAll enc Tryd.prog W 0 (fun _ => true) true Tryd.f4.params.toList args.toList ds p := hA0
  rw [Tryd.params4] at hA hval
  have hA2 := hA
  obtain ⟨v0, v1, d0, d1, p0, p1, rfl, rfl, rfl, h0, h1⟩ := trodAll_two hA
  obtain ⟨rfl, rfl⟩ := trodVars_none hV
  obtain ⟨x0, r0, y0⟩ := arg_open fragBuiltCuts (by decide) (hval 0 9 v0 rfl rfl) h0
  obtain ⟨x1, r1, y1⟩ := arg_open fragBuiltCuts (by decide) (hval 1 28 v1 rfl rfl) h1
  clear hA0 hval0
  simp only [List.append_nil] at hW'
  have hgl : GlobOk (fun _ _ => True) W := fun b hb => by
    obtain ⟨m, hm⟩ : ∃ m, W.cell? ⟨0, 0, none⟩ = some (.int .i64 m) := Tryd.laysM219.s1_3 W hsh
    simp only [globsL, List.mem_singleton] at hb
    subst hb
    exact ⟨m, trivial, hm⟩
  refine ((law_builtCuts_args x0 x1 y0 y1).out (fun _ _ => True) W #[v0, v1] hgl rfl (rels2 r0 r1)).mono fun e W' ⟨u, he, hd, hg⟩ => ?_
  have hu : u = .bool true := by cases hd with | p _ _ hd => cases hd; rfl
  subst hu; subst he
  exact ⟨_, rfl, post_law2 (pv := []) hW' (fun _ _ _ => trodAll_mk1 (shut_bool Tryd.underlying4 _)) (trodAll_below laidBuiltCuts hg (of_decide_eq_true (by kernel_rfl)) hA2 (fun x hx => by simpa using hW'.lt x hx)) rfl hg⟩

theorem builtCuts_row_holds : Rows.BuiltCutsSaid :=
  OpenClaim.holds_of_wide 4 Tryd.f4 rfl rfl rfl rfl rfl rfl rfl ⟨rfl, rfl, rfl, rfl, rfl⟩ rfl rfl rfl rfl rfl (by kernel_rfl) Tryd.func4 (by kernel_rfl)
    (of_decide_eq_true (by kernel_rfl)) (by unfold Func.isWrapper; first | (rw [if_pos (by decide +kernel)]; kernel_rfl) | (rw [if_neg (by decide +kernel)]; exact ⟨rfl, rfl⟩))
    (fun os started H enc _ => builtCuts_lifted os started H enc)
theorem builtCuts_holds : Rows.BuiltCutsCardSaid :=
  Claim7.holds_tied_plain_at .later [] [.data, .pinned] true (true, "15a96e0fe5f098f41134a8e964a7d901f33364f222d9d0451d1dd69b91f93a47") false builtCuts_row_holds (fun _ h => by cases h) (by kernel_rfl) (fun _ h => by cases h) builtCuts_row_tie rfl ⟨rfl, rfl⟩ (by kernel_rfl) rfl
    (fun f fn hf hfn => by
      obtain rfl : f = 4 := Option.some.inj ((show Tryd.prog.funcNamed "nuncio/nunciolaw31.BuiltCuts" = some 4 by kernel_rfl).symm.trans hf) |>.symm
      obtain rfl : fn = Tryd.f4 := (Option.some.inj (Tryd.func4.symm.trans hfn)).symm
      exact ⟨by kernel_rfl, fun j t ht => by
        rw [Tryd.params4] at ht
        have hm : t ∈ [9, 28] := by simpa using Array.mem_of_getElem? ht
        have hall : ([9, 28].all fun u => !Tryd.prog.wantsStandIn u) = true := by kernel_rfl
        exact (show Tryd.prog.wantsStandIn t = false by simpa using List.all_eq_true.1 hall t hm)⟩)
    (by kernel_rfl)
#print axioms builtCuts_holds
end Go.Proofs.YteahaflhihioaaaDoor
end
