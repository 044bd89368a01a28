/- The abstract layer, part 5: numbers, strings, cuts, lengths, what is built. -/
import Derived.Test.YtlhjieapkcnghaaAbP
import Derived.Laws.Small
import Derived.Laws.StructEq
import Derived.Laws.Pointers
namespace Go.Proofs.Ytlhjieapkcnghaa
open Go.RowKit

/-! ### numbers, truths and strings -/
def bytesOf (s : ByteArray) : List UInt8 := s.data.toList
def strOf (l : List UInt8) : Value := .string ⟨l.toArray⟩
def aBin (op : BinOp) (a b : Value) (K : Value → Prop) : Prop :=
  match op, a, b with
  | .shl, .int k x, .int _ y => 0 ≤ y ∧ K (.int k (k.wrap (x * 2 ^ (min y.toNat k.bits))))
  | .shr, .int k x, .int _ y => 0 ≤ y ∧ K (.int k (x.fdiv (2 ^ (min y.toNat k.bits))))
  | .add, .int k x, .int k' y => if k = k' then K (.int k (k.wrap (x + y))) else False
  | .sub, .int k x, .int k' y => if k = k' then K (.int k (k.wrap (x - y))) else False
  | .mul, .int k x, .int k' y => if k = k' then K (.int k (k.wrap (x * y))) else False
  | .quo, .int k x, .int k' y => if k = k' then y ≠ 0 ∧ K (.int k (k.wrap (x.tdiv y))) else False
  | .rem, .int k x, .int k' y => if k = k' then y ≠ 0 ∧ K (.int k (x.tmod y)) else False
  | .and, .int k x, .int k' y => if k = k' then K (.int k (bits .and k x y)) else False
  | .or, .int k x, .int k' y => if k = k' then K (.int k (bits .or k x y)) else False
  | .xor, .int k x, .int k' y => if k = k' then K (.int k (bits .xor k x y)) else False
  | .andNot, .int k x, .int k' y => if k = k' then K (.int k (bits .andNot k x y)) else False
  | .eql, .int k x, .int k' y => if k = k' then K (.bool (x == y)) else False
  | .neq, .int k x, .int k' y => if k = k' then K (.bool (x != y)) else False
  | .lss, .int k x, .int k' y => if k = k' then K (.bool (decide (x < y))) else False
  | .leq, .int k x, .int k' y => if k = k' then K (.bool (decide (x ≤ y))) else False
  | .gtr, .int k x, .int k' y => if k = k' then K (.bool (decide (x > y))) else False
  | .geq, .int k x, .int k' y => if k = k' then K (.bool (decide (x ≥ y))) else False
  | .add, .string x, .string y => ((bytesOf x).length + (bytesOf y).length ≤ 9223372036854775807) ∧ K (strOf (bytesOf x ++ bytesOf y))
  | .eql, .string x, .string y => K (.bool (bytesOf x == bytesOf y))
  | .neq, .string x, .string y => K (.bool (!(bytesOf x == bytesOf y)))
  | .lss, .string x, .string y => K (.bool (Op.bytesLess (bytesOf x) (bytesOf y)))
  | .leq, .string x, .string y => K (.bool (Op.bytesLess (bytesOf x) (bytesOf y) || (bytesOf x == bytesOf y)))
  | .gtr, .string x, .string y => K (.bool (!(Op.bytesLess (bytesOf x) (bytesOf y) || (bytesOf x == bytesOf y))))
  | .geq, .string x, .string y => K (.bool (!Op.bytesLess (bytesOf x) (bytesOf y)))
  | _, _, _ => False

section
variable {P : Program} {tb : Tbl}
theorem toList_bytes (s : ByteArray) : s.toList = bytesOf s := Lib.toList_data s
theorem append_bytes (x y : ByteArray) : Value.string (x ++ y) = strOf (bytesOf x ++ bytesOf y) := by
  unfold strOf bytesOf
  congr 1
theorem intMax : IntKind.i64.max = 9223372036854775807 := by decide +kernel
theorem aBin_sound {op : BinOp} {t : TypeId} {a b : Value} {K : Value → Prop} (w : World) (h : aBin op a b K) : ∃ u, (binOp op t a b).run P w = .ok u w ∧ K u ∧ scal u = true := by
  unfold aBin at h
  split at h
  case h_1 => exact ⟨_, by simp [binOp, Op.shift, Int.not_lt.2 h.1], h.2, rfl⟩
  case h_2 => exact ⟨_, by simp [binOp, Op.shift, Int.not_lt.2 h.1], h.2, rfl⟩
  case h_18 =>
    refine ⟨_, ?_, h.2, rfl⟩
    rename_i x y
    have h1 : ¬ (((x.size + y.size : Nat) : Int) > IntKind.i64.max) := by
      have := h.1
      unfold bytesOf at this
      rw [intMax]
      simp at this ⊢
      omega
    rw [← append_bytes]
    show (Op.stringOp .add x y).run P w = _
    unfold Op.stringOp
    rw [if_neg h1]; rfl
  case h_19 => exact ⟨_, by simp [binOp, Op.stringOp, toList_bytes], h, rfl⟩
  case h_20 => exact ⟨_, by simp [binOp, Op.stringOp, toList_bytes], h, rfl⟩
  case h_21 => exact ⟨_, by simp [binOp, Op.stringOp, toList_bytes], h, rfl⟩
  case h_22 => exact ⟨_, by simp [binOp, Op.stringOp, toList_bytes], h, rfl⟩
  case h_23 => exact ⟨_, by simp [binOp, Op.stringOp, toList_bytes], h, rfl⟩
  case h_24 => exact ⟨_, by simp [binOp, Op.stringOp, toList_bytes], h, rfl⟩
  case h_25 => exact h.elim
  case h_7 =>
    split at h
    · rename_i hk; subst hk; exact ⟨_, by simp [binOp, Op.intDiv, h.1], h.2, rfl⟩
    · exact h.elim
  case h_6 =>
    split at h
    · rename_i hk; subst hk; exact ⟨_, by simp [binOp, Op.intDiv, h.1], h.2, rfl⟩
    · exact h.elim
  all_goals
    split at h
    · rename_i hk; subst hk
      exact ⟨_, by simp [binOp, Op.intArith, Op.intCmp, intBits_and, intBits_or, intBits_xor, intBits_andNot], h, rfl⟩
    · exact h.elim
theorem eqGuard_scal (op : BinOp) (t : TypeId) (x y : Operand) (a b : Value) (ha : a ≠ .nilIface) (hb : ∀ cs, a ≠ .agg cs) (w : World) : (eqGuard op t x y a b).run P w = .ok () w := by
  unfold eqGuard
  cases a <;> first
    | exact absurd rfl ha
    | exact absurd rfl (hb _)
    | (cases op <;> rfl)
/-- Two truths, at the type bool. -/
theorem bool_eql (hT : TblOk P tb) {t : Nat} {ti : TI} (ht : tb.lookup t = some ti) (hd : ti.d = .bool) (x y : Bool) (w : World) :
    (binOp .eql t (.bool x) (.bool y)).run P w = .ok (.bool (x == y)) w ∧ (binOp .neq t (.bool x) (.bool y)).run P w = .ok (.bool (x != y)) w := by
  have hu := hT.und ht
  rw [hd] at hu
  exact ⟨run_eql_bool w t x y hu, by rw [run_neq_bool w t x y hu]; rfl⟩
def aBinOp0 (tb : Tbl) (op : BinOp) (t : Nat) (x y : D) (s : S) (K : D → S → Prop) : Prop :=
  match x, y with
  | .p (.v (.bool a)), .p (.v (.bool b)) => match tb.lookup t, op with
    | some ti, .eql => match ti.d with | .bool => K (.p (.v (.bool (a == b)))) s | _ => False
    | some ti, .neq => match ti.d with | .bool => K (.p (.v (.bool (a != b)))) s | _ => False
    | _, _ => False
  | .p (.v a), .p (.v b) => aBin op a b fun u => K (.p (.v u)) s
  | _, _ => False
theorem aBin_guard {op : BinOp} {a b : Value} {K : Value → Prop} (h : aBin op a b K) : a ≠ .nilIface ∧ ∀ cs, a ≠ .agg cs := by
  unfold aBin at h
  split at h
  all_goals first
    | exact h.elim
    | exact ⟨by simp, by simp⟩
theorem aBinOp0_sound (hT : TblOk P tb) {G : Gh} {w : World} {s : S} (hI : Inv G s w) {K : D → S → Prop} {op : BinOp} {t : Nat} {x y : D} {u v : Value} (hx : DRel G w x u) (hy : DRel G w y v) (ox oy : Operand) (h : aBinOp0 tb op t x y s K) :
    Out P G w ((do eqGuard op t ox oy u v; binOp op t u v : Sem Value).run P w) K := by
  unfold aBinOp0 at h
  split at h
  · rename_i a b
    have e1 : u = .bool a := by cases hx with | p x u hx => cases hx; rfl
    have e2 : v = .bool b := by cases hy with | p x u hx => cases hx; rfl
    subst e1; subst e2
    split at h
    · rename_i ti ht
      split at h
      · rename_i hd
        refine .pure hI _ ?_ (.p _ _ (.v _ rfl)) h
        rw [Sem.run_bind, eqGuard_scal _ _ _ _ _ _ (by simp) (by simp), Result.andThen_ok]
        exact (bool_eql hT ht hd a b w).1
      · exact h.elim
    · rename_i ti ht
      split at h
      · rename_i hd
        refine .pure hI _ ?_ (.p _ _ (.v _ rfl)) h
        rw [Sem.run_bind, eqGuard_scal _ _ _ _ _ _ (by simp) (by simp), Result.andThen_ok]
        exact (bool_eql hT ht hd a b w).2
      · exact h.elim
    · exact h.elim
  · rename_i a b _
    have e1 : u = a := by cases hx with | p x u hx => cases hx; rfl
    have e2 : v = b := by cases hy with | p x u hx => cases hx; rfl
    subst e1; subst e2
    obtain ⟨g1, g2⟩ := aBin_guard h
    obtain ⟨r, hr, hK, hs⟩ := aBin_sound (P := P) (t := t) w h
    refine .pure hI _ ?_ (.p _ _ (.v _ hs)) hK
    rw [Sem.run_bind, eqGuard_scal _ _ _ _ _ _ g1 g2, Result.andThen_ok]
    exact hr
  · exact h.elim
/-! structs of scalars; pointers and nil -/
def cellEq (d : TypeDesc) (a b : V) : Option Bool :=
  match d, a, b with
  | .string, .v (.string x), .v (.string y) => some (bytesOf x == bytesOf y)
  | .int _, .v (.int k x), .v (.int k' y) => if k = k' then some (x == y) else none
  | .bool, .v (.bool x), .v (.bool y) => some (x == y)
  | _, _, _ => none
def fieldsEq (tb : Tbl) (xs ys : List V) : List Field → Option Bool
  | [] => some true
  | f :: r => match tb.lookup f.type, xs[f.offset]?, ys[f.offset]? with
    | some ti, some a, some b => match cellEq ti.d a b, fieldsEq tb xs ys r with
      | some p, some q => some (p && q)
      | _, _ => none
    | _, _, _ => none
def isPtr (tb : Tbl) (t : Nat) : Bool :=
  match tb.lookup t with
  | some ti => match ti.d with | .pointer _ => true | _ => false
  | none => false
def eqK (op : BinOp) (b : Bool) (K : Bool → Prop) : Prop :=
  match op with
  | .eql => K b
  | .neq => K (!b)
  | _ => False
theorem cellEq_run (hT : TblOk P tb) {C : Nat → Nat → Prop} {w : World} {t : Nat} {ti : TI} (ht : tb.lookup t = some ti) {a b : V} {r : Bool} (h : cellEq ti.d a b = some r) {u v : Value} (hu : VRel C w a u) (hv : VRel C w b v) (d : Nat) :
    isAggD ti.d = false ∧ (Op.equalIn (d + 1) t u v).run P w = .ok r w := by
  have hun := hT.und ht
  unfold cellEq at h
  split at h
  · rename_i x y hd; cases hu; cases hv; cases h
    rw [hd] at hun ⊢
    exact ⟨rfl, by rw [run_equalIn_string w d t _ _ hun, toList_bytes, toList_bytes]⟩
  · rename_i k0 k x k' y hd; cases hu; cases hv
    split at h
    · rename_i hk; subst hk; cases h
      rw [hd] at hun ⊢
      exact ⟨rfl, run_equalIn_int w d t _ _ _ _ hun⟩
    · cases h
  · rename_i x y hd; cases hu; cases hv; cases h
    rw [hd] at hun ⊢
    exact ⟨rfl, run_equalIn_bool' w d t _ _ hun⟩
  · cases h
theorem part_run (hT : TblOk P tb) {t : Nat} {ti : TI} (ht : tb.lookup t = some ti) (hd : isAggD ti.d = false) (w : World) {us : Array Value} {off : Nat} {u : Value} (hu : us[off]? = some u) : (part t us off).run P w = .ok u w := by
  unfold part
  simp only [Sem.run_bind, hT.agg ht, Result.andThen_ok, hd, Bool.false_eq_true, if_false, hu]
  rfl
theorem eqFields_run (hT : TblOk P tb) {C : Nat → Nat → Prop} {w : World} {xs ys : List V} {us vs : Array Value} (hx : VRel C w (.agg xs) (.agg us)) (hy : VRel C w (.agg ys) (.agg vs)) (d : Nat) :
    ∀ (fs : List Field) (b : Bool), fieldsEq tb xs ys fs = some b → fs.all (fun f => f.name != "_") = true → (Op.eqFields (d + 1) us vs fs).run P w = .ok b w
  | [], b, h, _ => by cases h; rfl
  | f :: r, b, h, hn => by
    unfold fieldsEq at h
    simp only [List.all_cons, Bool.and_eq_true, bne_iff_ne, ne_eq] at hn
    split at h
    · rename_i ti a c ht ha hc
      split at h
      · rename_i p q hp hq
        cases h
        have ih := eqFields_run hT hx hy d r q hq hn.2
        cases hx with
        | agg _ _ hl1 _ hr1 =>
        cases hy with
        | agg _ _ hl2 _ hr2 =>
        obtain ⟨u, hu⟩ : ∃ u, us[f.offset]? = some u := ⟨_, Array.getElem?_eq_getElem (by have := (List.getElem?_eq_some_iff.1 ha).1; omega)⟩
        obtain ⟨v, hv⟩ : ∃ v, vs[f.offset]? = some v := ⟨_, Array.getElem?_eq_getElem (by have := (List.getElem?_eq_some_iff.1 hc).1; omega)⟩
        obtain ⟨k1, k2⟩ := cellEq_run hT ht hp (hr1 _ _ _ ha hu) (hr2 _ _ _ hc hv) d
        simp only [Op.eqFields, ne_eq, hn.1, not_false_eq_true, if_true, Sem.run_bind, part_run hT ht k1 w hu, part_run hT ht k1 w hv, Result.andThen_ok, k2]
        cases p with
        | true => simp [ih]
        | false => simp
      · cases h
    · cases h
def aBinOp (tb : Tbl) (op : BinOp) (t : Nat) (x y : D) (s : S) (K : D → S → Prop) : Prop :=
  match x, y with
  | .p (.agg xs), .p (.agg ys) => match tb.lookup t with
    | some ti => match ti.d with
      | .struct fs => match fieldsEq tb xs ys fs.toList with
        | some b => ti.cmp = true ∧ eqK op b fun b => K (.p (.v (.bool b))) s
        | none => False
      | _ => False
    | none => False
  | .p (.ep _), .p (.v (.pointer none)) => isPtr tb t = true ∧ eqK op false fun b => K (.p (.v (.bool b))) s
  | .p (.opt b _), .p (.v (.pointer none)) => isPtr tb t = true ∧ eqK op (!b) fun b => K (.p (.v (.bool b))) s
  | .p (.v (.pointer none)), .p (.v (.pointer none)) => isPtr tb t = true ∧ eqK op true fun b => K (.p (.v (.bool b))) s
  | x, y => aBinOp0 tb op t x y s K
theorem ptrEq_sound (hT : TblOk P tb) {G : Gh} {w : World} {s : S} (hI : Inv G s w) {K : D → S → Prop} {op : BinOp} {t : Nat} (ht : isPtr tb t = true) (a : Option Addr) (ox oy : Operand) (h : eqK op a.isNone fun b => K (.p (.v (.bool b))) s) :
    Out P G w ((do eqGuard op t ox oy (.pointer a) (.pointer none); binOp op t (.pointer a) (.pointer none) : Sem Value).run P w) K := by
  have hu : P.underlying t = some (.pointer (P.pointee t)) := by
    unfold isPtr at ht
    split at ht
    · rename_i ti h1
      have h2 := hT.und h1
      split at ht
      · rename_i e hd
        rw [hd] at h2
        rw [h2]
        unfold Program.pointee
        rw [h2]
      · cases ht
    · cases ht
  unfold eqK at h
  split at h
  · refine .pure hI _ ?_ (.p _ _ (.v _ rfl)) h
    rw [Sem.run_bind, eqGuard_scal _ _ _ _ _ _ (by simp) (by simp), Result.andThen_ok]
    exact run_eql_pointer_nil w t a hu
  · refine .pure hI _ ?_ (.p _ _ (.v _ rfl)) h
    rw [Sem.run_bind, eqGuard_scal _ _ _ _ _ _ (by simp) (by simp), Result.andThen_ok]
    exact run_neq_pointer_nil w t a hu
  · exact h.elim
theorem aBinOp_sound (hT : TblOk P tb) {G : Gh} {w : World} {s : S} (hI : Inv G s w) {K : D → S → Prop} {op : BinOp} {t : Nat} {x y : D} {u v : Value} (hx : DRel G w x u) (hy : DRel G w y v) (ox oy : Operand) (h : aBinOp tb op t x y s K) :
    Out P G w ((do eqGuard op t ox oy u v; binOp op t u v : Sem Value).run P w) K := by
  unfold aBinOp at h
  split at h
  · rename_i xs ys
    split at h
    · rename_i ti ht
      split at h
      · rename_i fs hd
        split at h
        · rename_i b hb
          obtain ⟨hc, h⟩ := h
          have hu := hT.und ht
          obtain ⟨_, i, _, _, _, _, hcm, _⟩ := hT _ _ ht
          have hcm := hcm hc
          unfold cmpOk at hcm
          simp only [Bool.and_eq_true, Bool.not_eq_true'] at hcm
          rw [hd] at hu
          have hf : P.fieldsOf t = fs := by unfold Program.fieldsOf; rw [hu]
          obtain ⟨us, rfl, hx'⟩ : ∃ us, u = .agg us ∧ VRel G.com w (.agg xs) (.agg us) := by
            cases hx with | p _ _ h => cases h with | agg _ us h1 h2 h3 => exact ⟨us, rfl, .agg _ _ h1 h2 h3⟩
          obtain ⟨vs, rfl, hy'⟩ : ∃ us, v = .agg us ∧ VRel G.com w (.agg ys) (.agg us) := by
            cases hy with | p _ _ h => cases h with | agg _ us h1 h2 h3 => exact ⟨us, rfl, .agg _ _ h1 h2 h3⟩
          have hrun : (Op.equalIn 10000 t (.agg us) (.agg vs)).run P w = .ok b w := by
            rw [run_equalIn_struct w 9999 t us vs (by rw [hf]; exact hu) hcm.1.1, hf]
            refine eqFields_run hT hx' hy' 9998 _ _ hb ?_
            rw [← hf]; exact hcm.2
          unfold eqK at h
          split at h
          · refine .pure hI _ ?_ (.p _ _ (.v _ rfl)) h
            rw [Sem.run_bind, run_eqGuard_agg w _ t ox oy us vs hcm.1.2, Result.andThen_ok, run_eql_struct, hrun]
            rfl
          · refine .pure hI _ ?_ (.p _ _ (.v _ rfl)) h
            rw [Sem.run_bind, run_eqGuard_agg w _ t ox oy us vs hcm.1.2, Result.andThen_ok, run_neq_struct, hrun]
            rfl
          · exact h.elim
        · exact h.elim
      · exact h.elim
    · exact h.elim
  · obtain ⟨a, rfl⟩ : ∃ a, u = .pointer (some a) := by
      cases hx with | p _ _ h => cases h with | ep _ b off us h1 h2 => exact ⟨_, rfl⟩
    have e2 : v = .pointer none := by cases hy with | p _ _ h => cases h; rfl
    subst e2
    exact ptrEq_sound hT hI h.1 _ ox oy h.2
  · rename_i b _
    have e2 : v = .pointer none := by cases hy with | p _ _ h => cases h; rfl
    subst e2
    cases hx with
    | p _ _ hx =>
      cases hx with
      | opt _ _ _ h1 h2 =>
        cases b with
        | false => rw [h1 rfl]; exact ptrEq_sound hT hI h.1 _ ox oy h.2
        | true =>
          have := h2 rfl
          cases this
          exact ptrEq_sound hT hI h.1 _ ox oy h.2
  · have e1 : u = .pointer none := by cases hx with | p _ _ h => cases h; rfl
    have e2 : v = .pointer none := by cases hy with | p _ _ h => cases h; rfl
    subst e1; subst e2
    exact ptrEq_sound hT hI h.1 _ ox oy h.2
  · exact aBinOp0_sound hT hI hx hy ox oy h
def aUn (op : UnOp) (x : D) (s : S) (K : D → S → Prop) : Prop :=
  match op, x with
  | .neg, .p (.v (.int k n)) => K (.p (.v (.int k (k.wrap (0 - n))))) s
  | .not, .p (.v (.bool b)) => K (.p (.v (.bool !b))) s
  | _, _ => False
theorem aUn_sound {G : Gh} {w : World} {s : S} (hI : Inv G s w) {K : D → S → Prop} {op : UnOp} {x : D} {u : Value} (hx : DRel G w x u) (h : aUn op x s K) : Out P G w ((Op.unary op u).run P w) K := by
  unfold aUn at h
  split at h
  · rename_i k n
    have e : u = .int k n := by cases hx with | p x u hx => cases hx; rfl
    subst e
    exact .pure hI _ (by simp [Op.unary, Op.intArith]) (.p _ _ (.v _ rfl)) h
  · rename_i b
    have e : u = .bool b := by cases hx with | p x u hx => cases hx; rfl
    subst e
    exact .pure hI _ (by simp [Op.unary]) (.p _ _ (.v _ rfl)) h
  · exact h.elim

/-! ### lengths -/
def aLen (tb : Tbl) (t : Nat) (x : D) (s : S) (K : D → S → Prop) : Prop :=
  match tb.lookup t with
  | some ti => match ti.d, x with
    | .slice _, .p (.sl _ es) => K (.p (.v (.int .i64 es.length))) s
    | .slice _, .own _ _ _ es => K (.p (.v (.int .i64 es.length))) s
    | .string, .p (.v (.string z)) => K (.p (.v (.int .i64 (bytesOf z).length))) s
    | .array n _, _ => K (.p (.v (.int .i64 n))) s
    | _, _ => False
  | none => False
theorem aLen_sound (hT : TblOk P tb) {G : Gh} {w : World} {s : S} (hI : Inv G s w) {K : D → S → Prop} {t ty : Nat} {x : D} {u : Value} (hx : DRel G w x u) (h : aLen tb t x s K) : Out P G w ((Builtin.len_ #[t] ty #[u]).run P w) K := by
  unfold aLen at h
  split at h
  · rename_i ti ht
    have hu := hT.und ht
    split at h
    · rename_i e full es hd
      rw [hd] at hu
      cases hx with
      | p x u hx =>
        obtain ⟨a, cap, rfl, _⟩ := hx.isSlice
        exact .pure hI _ (by simp [Builtin.len_, run_underlying hu, goInt]) (.p _ _ (.v _ rfl)) h
    · rename_i e t' e' sz es hd
      rw [hd] at hu
      cases hx with
      | own _ _ _ _ u T hx =>
        obtain ⟨a, cap, rfl, _⟩ := hx.isSlice
        exact .pure hI _ (by simp [Builtin.len_, run_underlying hu, goInt]) (.p _ _ (.v _ rfl)) h
    · rename_i z hd
      rw [hd] at hu
      have e : u = .string z := by cases hx with | p x u hx => cases hx; rfl
      subst e
      exact .pure hI _ (by simp [Builtin.len_, run_underlying hu, goInt, bytesOf]) (.p _ _ (.v _ rfl)) h
    · rename_i n e hd
      rw [hd] at hu
      exact .pure hI _ (by simp [Builtin.len_, run_underlying hu, goInt]) (.p _ _ (.v _ rfl)) h
    · exact h.elim
  · exact h.elim
def aMinMax (mx : Bool) (x y : D) (s : S) (K : D → S → Prop) : Prop :=
  match x, y with
  | .p (.v (.int k a)), .p (.v (.int _ b)) => K (.p (.v (.int k (if mx then (if b > a then b else a) else (if b < a then b else a))))) s
  | _, _ => False
/-- The greatest or least of three numbers. -/
def aMinMax3 (mx : Bool) (x y z : D) (s : S) (K : D → S → Prop) : Prop :=
  match x, y, z with
  | .p (.v (.int k a)), .p (.v (.int _ b)), .p (.v (.int _ c)) => K (.p (.v (.int k (if mx then (if c > (if b > a then b else a) then c else (if b > a then b else a)) else (if c < (if b < a then b else a) then c else (if b < a then b else a)))))) s
  | _, _, _ => False
theorem aMinMax3_sound {G : Gh} {w : World} {s : S} (hI : Inv G s w) {K : D → S → Prop} {mx : Bool} {x y z : D} {u v q : Value} (hx : DRel G w x u) (hy : DRel G w y v) (hz : DRel G w z q) (ts : Array TypeId) (ty : Nat) (h : aMinMax3 mx x y z s K) :
    Out P G w ((if mx then Builtin.max_ ts ty #[u, v, q] else Builtin.min_ ts ty #[u, v, q]).run P w) K := by
  unfold aMinMax3 at h
  split at h
  · rename_i k a k' b k'' c
    have e1 : u = .int k a := by cases hx with | p x u hx => cases hx; rfl
    have e2 : v = .int k' b := by cases hy with | p x u hx => cases hx; rfl
    have e3 : q = .int k'' c := by cases hz with | p x u hx => cases hx; rfl
    subst e1; subst e2; subst e3
    cases mx
    · exact .pure hI _ (by simp [Builtin.min_, Builtin.min2]) (.p _ _ (.v _ rfl)) h
    · exact .pure hI _ (by simp [Builtin.max_, Builtin.max2]) (.p _ _ (.v _ rfl)) h
  · exact h.elim
theorem aMinMax_sound {G : Gh} {w : World} {s : S} (hI : Inv G s w) {K : D → S → Prop} {mx : Bool} {x y : D} {u v : Value} (hx : DRel G w x u) (hy : DRel G w y v) (ts : Array TypeId) (ty : Nat) (h : aMinMax mx x y s K) :
    Out P G w ((if mx then Builtin.max_ ts ty #[u, v] else Builtin.min_ ts ty #[u, v]).run P w) K := by
  unfold aMinMax at h
  split at h
  · rename_i k a k' b
    have e1 : u = .int k a := by cases hx with | p x u hx => cases hx; rfl
    have e2 : v = .int k' b := by cases hy with | p x u hx => cases hx; rfl
    subst e1; subst e2
    cases mx
    · exact .pure hI _ (by simp [Builtin.min_, Builtin.min2]) (.p _ _ (.v _ rfl)) h
    · exact .pure hI _ (by simp [Builtin.max_, Builtin.max2]) (.p _ _ (.v _ rfl)) h
  · exact h.elim

/-! ### new rows -/
theorem row_rel {C : Nat → Nat → Prop} {w : World} (b : Nat) (arr : Array Value) (ty : TypeId) (fr : Nat × Nat) (hb : w.heap[b]? = some (.cells arr ty fr)) (hC : ∀ o, C b o) (full : Bool) (es : List (List V)) (size cap : Nat)
    (h1 : es.length ≤ cap) (h2 : cap ≤ maxLen) (h3 : full = true → cap = es.length) (h4 : ∀ e ∈ es, e.length = size)
    (h : ∀ (i k : Nat) e c, es[i]? = some e → e[k]? = some c → ∃ u, arr[i * size + k]? = some u ∧ u.oneCell' = true ∧ VRel C w c u) : VRel C w (.sl full es) (.slice (some ⟨b, 0, none⟩) es.length cap) := by
  refine .sl full es _ cap size b 0 (fun j => arr.getD j undef) h1 h2 h3 h4 (fun h => by cases h) (fun i k e c he hc => ?_) (fun i k e c he hc => ?_) (fun _ ad had => by cases had; exact (Array.getElem?_eq_some_iff.1 hb).1)
  · obtain ⟨u, hu, ho, _⟩ := h i k e c he hc
    have hg : arr.getD (i * size + k) undef = u := by simp [Array.getD_eq_getD_getElem?, hu]
    refine ⟨rfl, hC _, ?_, ?_⟩
    · rw [cell_of_row w b _ arr ty fr hb, Nat.zero_add, hg, hu]
    · rw [hg]; exact ho
  · obtain ⟨u, hu, _, hv⟩ := h i k e c he hc
    have hg : arr.getD (i * size + k) undef = u := by simp [Array.getD_eq_getD_getElem?, hu]
    show VRel C w c (arr.getD (i * size + k) undef)
    rw [hg]; exact hv

/-! ### conversions -/
def byteV (c : UInt8) : List V := [.v (.int .u8 c.toNat)]
def aConv (tb : Tbl) (src dst : Nat) (x : D) (s : S) (K : D → S → Prop) : Prop :=
  match tb.lookup src, tb.lookup dst with
  | some ts, some td => match td.d, x with
    | .int k, .p (.v (.int _ n)) => K (.p (.v (.int k (k.wrap n)))) s
    | .string, .p (.v (.string z)) => K (.p (.v (.string z))) s
    | .string, .p (.sl _ es) => match ts.d with
      | .slice e => match tb.lookup e with
        | some te => match te.d with
          | .int .u8 => ∃ l : List UInt8, es = l.map byteV ∧ K (.p (.v (strOf l))) s
          | _ => False
        | none => False
      | _ => False
    | .string, .own _ _ _ es => match ts.d with
      | .slice e => match tb.lookup e with
        | some te => match te.d with
          | .int .u8 => ∃ l : List UInt8, es = l.map byteV ∧ K (.p (.v (strOf l))) s
          | _ => False
        | none => False
      | _ => False
    | .slice e, .p (.v (.string z)) => match tb.lookup e, ts.d with
      | some te, .string => match te.d with
        | .int .u8 => (bytesOf z).length ≤ maxLen ∧ K (.p (.sl false ((bytesOf z).map byteV))) s
        | _ => False
      | _, _ => False
    | _, _ => False
  | _, _ => False
theorem conv_back (hT : TblOk P tb) {G : Gh} {w : World} {src dst e : Nat} {ts td te : TI} (h1 : tb.lookup src = some ts) (h2 : tb.lookup dst = some td) (h3 : tb.lookup e = some te) (d1 : ts.d = .slice e) (d2 : td.d = .string) (d3 : te.d = .int .u8)
    {full : Bool} {es : List (List V)} {u : Value} (hx : VRel G.com w (.sl full es) u) (l : List UInt8) (hl : es = l.map byteV) : (convert src dst u).run P w = .ok (strOf l) w := by
  have u1 := hT.und h1; have u2 := hT.und h2; have u3 := hT.und h3
  rw [d1] at u1; rw [d2] at u2; rw [d3] at u3
  subst hl
  cases hx with
  | sl full es a cap size b off us g1 g2 g3 g4 g5 g6 g7 g8 =>
    cases a with
    | none =>
      have := g5 rfl
      have hl0 : l = [] := by
        have : (l.map byteV).length = 0 := by omega
        simpa using this
      subst hl0
      rw [run_convert_bytes_string w src dst e none _ _ u1 u3 u2]
      rfl
    | some a =>
      have hlen : (l.map byteV).length = l.length := by simp
      rw [hlen]
      refine run_convert_bytes_back w src dst e a cap l u1 u3 u2 fun j hj => ?_
      have he : (l.map byteV)[j]? = some (byteV l[j]) := by rw [List.getElem?_map, List.getElem?_eq_getElem hj]; rfl
      have hsz : size = 1 := (g4 _ (List.mem_of_getElem? he)).symm
      obtain ⟨ha, -, hc, -⟩ := g6 j 0 _ _ he (show (byteV l[j])[0]? = some (.v (.int .u8 l[j].toNat)) from rfl)
      have hv := g7 j 0 _ _ he (show (byteV l[j])[0]? = some (.v (.int .u8 l[j].toNat)) from rfl)
      cases ha
      rw [addAt]
      subst hsz
      simp only [Nat.mul_one, Nat.add_zero] at hc hv
      rw [hc]
      generalize us j = q at hv
      cases hv
      rfl
theorem aConv_sound (hT : TblOk P tb) {G : Gh} {w : World} {s : S} (hI : Inv G s w) {K : D → S → Prop} {src dst : Nat} {x : D} {u : Value} (hx : DRel G w x u) (h : aConv tb src dst x s K) : Out P G w ((convert src dst u).run P w) K := by
  unfold aConv at h
  split at h
  · rename_i ts td h1 h2
    have u1 := hT.und h1; have u2 := hT.und h2
    split at h
    · rename_i k k' n hd
      rw [hd] at u2
      have e : u = .int k' n := by cases hx with | p x u hx => cases hx; rfl
      subst e
      refine .pure hI _ ?_ (.p _ _ (.v _ rfl)) h
      simp [convert, run_underlying u1, run_underlying u2, Conv.intToInt]
    · rename_i z hd
      rw [hd] at u2
      have e : u = .string z := by cases hx with | p x u hx => cases hx; rfl
      subst e
      refine .pure hI _ ?_ (.p _ _ (.v _ rfl)) h
      simp [convert, run_underlying u1, run_underlying u2]
    · rename_i full es hd
      split at h
      · rename_i e hs
        split at h
        · rename_i te he
          split at h
          · rename_i hb
            obtain ⟨l, hl, hK⟩ := h
            cases hx with
            | p x u hx => exact .pure hI _ (conv_back hT h1 h2 he hs hd hb hx l hl) (.p _ _ (.v _ rfl)) hK
          · exact h.elim
        · exact h.elim
      · exact h.elim
    · rename_i t' e' sz es hd
      split at h
      · rename_i e hs
        split at h
        · rename_i te he
          split at h
          · rename_i hb
            obtain ⟨l, hl, hK⟩ := h
            cases hx with
            | own _ _ _ _ u T hx => exact .pure hI _ (conv_back hT h1 h2 he hs hd hb hx l hl) (.p _ _ (.v _ rfl)) hK
          · exact h.elim
        · exact h.elim
      · exact h.elim
    · rename_i e z hd
      split at h
      · rename_i te he hs
        split at h
        · rename_i hb
          obtain ⟨hm, h⟩ := h
          have hm : z.size ≤ maxLen := by simpa [bytesOf] using hm
          have e : u = .string z := by cases hx with | p x u hx => cases hx; rfl
          subst e
          have u3 := hT.und he
          rw [hd] at u2; rw [hs] at u1; rw [hb] at u3
          have hr := run_bytes_of_string (P := P) w src dst e z u1 u2 u3
          obtain ⟨k1, k2⟩ := newRow_stp (hI.drewN (w.drawn + 1)) (bytesRow z (grownCap w z.size 0 e)) e ((bytesRow z (grownCap w z.size 0 e)).size, (bytesRow z (grownCap w z.size 0 e)).size + 1)
          have hlen : ((bytesOf z).map byteV).length = z.size := by simp [bytesOf]
          have hle : z.size ≤ grownCap w z.size 0 e := grownCap_ge w z.size 0 e
          refine ⟨_, _, _, _, _, hr, (Stp.drewN G w (w.drawn + 1)).trans k1, k2, .p _ _ ?_, h⟩
          rw [← hlen]
          refine row_rel w.heap.size _ e _ (heap_alloc_new w.drew _) (fun o => .inr rfl) false _ 1 _ (by rw [hlen]; exact hle) (grownCap_le_maxLen w _ 0 e (by rw [hlen]; exact hm)) (fun h => by cases h) (fun e he => by
            obtain ⟨c, -, rfl⟩ := List.mem_map.1 he; rfl) (fun i k e c he hc => ?_)
          rw [List.getElem?_map] at he
          obtain ⟨x, hx, rfl⟩ := Option.map_eq_some_iff.1 he
          have hk : k = 0 := by have := (List.getElem?_eq_some_iff.1 hc).1; simp [byteV] at this; exact this
          subst hk
          have hcx : c = .v (.int .u8 x.toNat) := by simpa [byteV] using hc.symm
          subst hcx
          refine ⟨.int .u8 x.toNat, ?_, rfl, .v _ rfl⟩
          have hi : i < z.data.size := by have := (List.getElem?_eq_some_iff.1 hx).1; simpa [bytesOf] using this
          have hx2 : z.data[i]? = some x := by simpa [bytesOf] using hx
          rw [Nat.mul_one, Nat.add_zero, bytesRow, Array.getElem?_append_left (by simpa using hi)]
          simp [hx2]
        · exact h.elim
      · exact h.elim
    · exact h.elim
  · exact h.elim
end
end Go.Proofs.Ytlhjieapkcnghaa
