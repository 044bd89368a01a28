/- The proof's texts, part 7 of 9: the walks by a logic in which data are by value, the plain laws, and at the end the law, for every input. -/
import Derived.Test.YtebkhehjfkmdiaaDoorMgTruncFairs6
import Derived.Shelf.RegionOpenPlain
import Derived.Lib.Strings
import Derived.Lib.Walk
import Derived.Lib.Builder
import Derived.Lib.UnsafeStr
import Derived.Laws.Externs
import Derived.Shelf.Strings.Builder1
import Derived.Shelf.Strings.Builder2
import Derived.Shelf.Strings.OnBuilder
import Derived.Shelf.Strings.Trim
import Derived.Shelf.Small.Utf8
import Derived.Shelf.Small.Strs
import Derived.Shelf.Small.Wraps
import Derived.Shelf.Strings.BuilderF
import Derived.Shelf.Strings.BuilderK
import Derived.Shelf.Utf8.RuneCount
import Derived.Shelf.Strings.Builder2Cap
import Derived.Shelf.Strings.Search1
import Derived.Shelf.Strings.Search2
import Derived.Shelf.Strings.Search3
import Derived.Shelf.Strings.Count
import Derived.Shelf.LaysM
import Derived.Shelf.Strings.Shaped
import Derived.Shelf.Strings.Prefix
import Derived.Shelf.Strings.Split
import Derived.Shelf.Unicode.Decode
import Derived.Shelf.Strings.Runes
import Derived.Shelf.Strings.RuneCount
import Derived.Shelf.Strings.AsciiSet
import Derived.Shelf.Strings.Explode
import Derived.Shelf.Unicode.DecodeSlow
import Derived.Shelf.Unicode.DecodeAny
import Derived.Shelf.Strings.BuilderCap
import Derived.Test.YtebkhehjfkmdiaaDoorProg
import Derived.Shelf.Strings.SlTrimAscii
import Derived.Below
import Derived.Laws.Bits
import Derived.Deep.DeepCutAuto
import Derived.Deep.CutRange

section
namespace Go.Proofs.YtebkhehjfkmdiaaDoor
open Go.RowKit

def csize : Code → Nat
  | .seq a b => csize a + csize b + 1
  | .cond _ a b => csize a + csize b + 1
  | .block _ b => csize b + 1
  | .loop b => csize b + 1
  | .rangeFunc _ _ a b => csize a + csize b + 1
  | _ => 1
/-- By what a join behind x is found. -/
def skey : Code → Nat
  | .region id _ _ => 3000000 + id
  | x => 2000000 + 1000 * firstReg x + csize x
/-- The loops' bodies, in the text's order. -/
def loopsOf : Code → List Code
  | .seq a b => loopsOf a ++ loopsOf b
  | .cond _ a b => loopsOf a ++ loopsOf b
  | .block _ b => loopsOf b
  | .loop b => b :: loopsOf b
  | .rangeFunc g ps a b => .rangeFunc g ps a b :: (loopsOf a ++ loopsOf b)
  | .scope b => loopsOf b
  | _ => []
section
variable {P : Program} {tb : Tbl}
/-- Which variables count as made by the region: those behind all; or more, by the table. -/
def baseOf (o : Option (List Nat)) (n : Nat) : Nat := match o with
  | some [b] => if b ≤ n then b else n
  | _ => n
theorem baseOf_le (o : Option (List Nat)) (n : Nat) : baseOf o n ≤ n := by
  unfold baseOf
  split
  · split
    · assumption
    · exact Nat.le_refl _
  · exact Nat.le_refl _
/-- A region. -/
def rwp (P : Program) (tb : Tbl) (N : Nat) (lv : List (Nat × List Nat)) (id : Nat) (ops : Array Oper) (dr : Bool) (Q : St → Prop) (σ : St) : Prop := force σ fun σ => match dr with
    | false => match lv.lookup (9000000 + id) with
      | none => bOps true P tb N ops.toList (List.range ops.toList.length) σ fun σ' => Q (keep (lv.lookup id) σ')
      | some mk => xOps mk P tb N ops.toList (List.range ops.toList.length) σ fun σ' => Q (keep (lv.lookup id) σ')
    | true => match lv.lookup (6000000 + id) with
      | some [j] => tailOk ops.toList j = true ∧ lexOkP ((lv.lookup (5000000 + id)).getD []) ops.toList j = true ∧ (lv.lookup (7000000 + id)).isSome = true ∧ dOps σ.s.heap.length ((lv.lookup (5000000 + id)).getD []) P tb N ops.toList (List.range j) σ fun σ' =>
        ∃ σ2, Apv tb ops.toList j N (keep (lv.lookup (7000000 + id)) σ') σ2 ∧ Q (keep (lv.lookup id) σ2)
      | some [p, _] => lexOkX p (p + 1) ((lv.lookup (5000000 + id)).getD []) ops.toList = true ∧ reachB p ops.toList = true ∧ p + 1 < ops.toList.length ∧ (lv.lookup id).isSome = true ∧
        dOps σ.s.heap.length ((lv.lookup (5000000 + id)).getD []) P tb N ops.toList (List.range p) σ (both σ.s.heap.length ((lv.lookup (5000000 + id)).getD []) P tb N ops.toList p fun σ' => Q (keep (lv.lookup id) σ'))
      | _ => lexOk2 ((lv.lookup (5000000 + id)).getD []) ops.toList = true ∧ (lv.lookup id).isSome = true ∧ dOps (baseOf (lv.lookup (8000000 + id)) σ.s.heap.length) ((lv.lookup (5000000 + id)).getD []) P tb N ops.toList (List.range ops.toList.length) σ fun σ' => Q (keep (lv.lookup id) σ')
def bwp (B : Nat × Nat) (P : Program) (tb : Tbl) (N : Nat) (lv : List (Nat × List Nat)) : Code → (Exit → St → Prop) → St → Prop
  | .skip, Q, σ => Q .normal σ
  | .label _, Q, σ => Q .normal σ
  | .region id ops dr, Q, σ => match lv.lookup (9500000 + id) with
    | none => rwp P tb N lv id ops dr (Q .normal) σ
    | some _ => ∃ τ, Le B N σ τ ∧ rwp P tb N lv id ops dr (Q .normal) τ
  | .seq x y, Q, σ => match lv.lookup (skey x) with
    | none => bwp B P tb N lv x (fun e σ' => match e with | .normal => bwp B P tb N lv y Q σ' | e => Q e σ') σ
    | some _ => ∃ M : Exit → St → Prop, bwp B P tb N lv x M σ ∧ ∀ e σ', M e σ' → ∃ τ, Le B N σ' τ ∧ (match e with | .normal => bwp B P tb N lv y Q τ | e => Q e τ)
  | .cond c x y, Q, σ => match ev σ.env c with
    | some (.p (.v (.bool b))) => (b = true → bwp B P tb N lv x Q σ) ∧ (b = false → bwp B P tb N lv y Q σ)
    | _ => False
  | .block id b, Q, σ => bwp B P tb N lv b (fun e σ' => match e with | .exit i => if i = id then Q .normal σ' else Q (.exit i) σ' | e => Q e σ') σ
  | .exit id, Q, σ => Q (.exit id) σ
  | .ret, Q, σ => Q .ret σ
  | .goto l, Q, σ => Q (.goto l) σ
  | .scope b, Q, σ => ∃ M : Exit → St → Prop, T B P N (.scope b) M σ ∧ ∀ e σ', M e σ' → ∃ τ, Le B N σ' τ ∧ Q e τ
  | .loop b, Q, σ => ∃ M : Exit → St → Prop, T B P N (.loop b) M (keep (lv.lookup (1000000 + firstReg b)) σ) ∧ ∀ e σ', M e σ' → ∃ τ, Le B N σ' τ ∧ Q e τ
  | .rangeFunc g ps x y, Q, σ => ∃ M : Exit → St → Prop, T B P N (.rangeFunc g ps x y) M (keep (lv.lookup (4000000 + firstReg (.rangeFunc g ps x y))) σ) ∧ ∀ e σ', M e σ' → ∃ τ, Le B N σ' τ ∧ Q e τ
  | _, _, _ => False
theorem T_up {B : Nat × Nat} {N : Nat} {c : Code} {M Q : Exit → St → Prop} {σ : St} (h : T B P N c M σ) (k : ∀ e σ', M e σ' → ∃ τ, Le B N σ' τ ∧ Q e τ) : T B P N c Q σ := ⟨fun rd lo G a w hR hF =>
  wpIn_mono (h.out rd lo G a w hR hF) fun e a' w' ⟨G', σ', hE, hR', hF', hq⟩ => by
    obtain ⟨τ, hl, hq⟩ := k e σ' hq
    obtain ⟨G2, e2, r2⟩ := hl.out G' a' w' hR'
    exact ⟨G2, τ, hE.trans e2, r2, hF'.ext e2.ext rfl, hq⟩⟩
theorem T_seq {B : Nat × Nat} {N : Nat} {x y : Code} {M Q : Exit → St → Prop} {σ : St} (h : T B P N x M σ) (k : ∀ e σ', M e σ' → match e with | .normal => T B P N y Q σ' | e => Q e σ') : T B P N (.seq x y) Q σ := ⟨fun rd lo G a w hR hF => by
  refine wpIn_seq (wpIn_mono (h.out rd lo G a w hR hF) fun e a' w' ⟨G', σ', hE, hR', hF', hq⟩ => ?_)
  have hq := k e σ' hq
  cases e with
  | normal => exact wpIn_mono (hq.out rd lo G' a' w' hR' hF') fun e a'' w'' ⟨G'', σ'', hE', hR'', hF'', hq'⟩ => ⟨G'', σ'', hE.trans hE', hR'', hF'', hq'⟩
  | exit id => exact ⟨G', σ', hE, hR', hF', hq⟩
  | goto l => exact ⟨G', σ', hE, hR', hF', hq⟩
  | ret => exact ⟨G', σ', hE, hR', hF', hq⟩
  | panic ch => exact ⟨G', σ', hE, hR', hF', hq⟩
  | outgrown => exact ⟨G', σ', hE, hR', hF', hq⟩⟩
theorem rwp_sound (hm : P.follows .mixedOrders = true) (hT : TblOk P tb) {B : Nat × Nat} {N : Nat} {lv : List (Nat × List Nat)} {id : Nat} {ops : Array Oper} {dr : Bool} {Q : Exit → St → Prop} {σ : St} (h : rwp P tb N lv id ops dr (Q .normal) σ) : T B P N (.region id ops dr) Q σ := .mk fun rd lo G a w hR hF => by
  unfold rwp at h
  rw [force_eq] at h
  have hops : ops.toList.toArray = ops := by simp
  cases dr with
  | false =>
    refine wpIn_region ?_
    simp only at h
    split at h
    · have := bOps_sound hT (rd := rd) (ops := ops.toList) (Q := fun e a' w' => ∃ G' σ', Ex B G w G' w' ∧ Rel N G' σ' a' w' ∧ Fr rd lo G' a' w' ∧ Q e σ') (G0 := G) (w0 := w) (ds := a.defers) (fun a' w' G' σ' hE hR' hd hK => ⟨G', _, hE, keep_rel hR' _, hF.ext hE.ext hd, hK⟩) _ σ a w G (.refl B G w) hR rfl h
      rw [hops] at this
      simpa using this
    · have := xOps_sound hT (rd := rd) (ops := ops.toList) (Q := fun e a' w' => ∃ G' σ', Ex B G w G' w' ∧ Rel N G' σ' a' w' ∧ Fr rd lo G' a' w' ∧ Q e σ') (G0 := G) (w0 := w) (ds := a.defers) (fun a' w' G' σ' hE hR' hd hK => ⟨G', _, hE, keep_rel hR' _, hF.ext hE.ext hd, hK⟩) _ σ a w G (.refl B G w) hR rfl h
      rw [hops] at this
      simpa using this
  | true =>
    simp only at h
    split at h
    · rename_i j hj
      obtain ⟨h1, h2, h3, h4⟩ := h
      have ht := tailOk_spec h1
      obtain ⟨l, hl⟩ := Option.isSome_iff_exists.1 h3
      refine wpIn_region_any hm ?_
      have hsz : ops.size = j + 6 := by have := ht.len; simpa using this
      have hall : ((List.range j).filter fun i => !(Array.replicate ops.size false).getD i true) = List.range j := by
        rw [List.filter_eq_self]
        intro i hi
        have : i < ops.size := by have := List.mem_range.1 hi; omega
        simp [Array.getD_eq_getD_getElem?, this]
      have hd : Stp G w G { w with drawn := w.drawn + 1 } := Stp.drewN G w _
      have := dpre_sound hT (rd := rd) (ops := ops.toList) (j := j) (k := 6) (by rw [ht.len]; omega) h2 (fun i o hi ho x hx => by
          have hi6 : i < j + 6 := by have := (List.getElem?_eq_some_iff.1 ho).1; rw [ht.len] at this; exact this
          have := ht.pre (i - j) (by omega) x hx
          rw [show j + (i - j) = i by omega] at this
          exact (bnds_mem ho).1 this) (ds := a.defers) (Q := fun e a' w' => ∃ G' σ', Ex B G w G' w' ∧ Rel N G' σ' a' w' ∧ Fr rd lo G' a' w' ∧ Q e σ') (K := fun σ' => ∃ σ2, Apv tb ops.toList j N (keep (lv.lookup (7000000 + id)) σ') σ2 ∧ Q .normal (keep (lv.lookup id) σ2)) (fun σ τ he hq => by
          have e : keep (lv.lookup (7000000 + id)) σ = keep (lv.lookup (7000000 + id)) τ := by
            rw [hl]
            simp only [keep, he.2, normE_congr l he.1]
          show ∃ σ2, Apv tb ops.toList j N (keep (lv.lookup (7000000 + id)) τ) σ2 ∧ Q .normal (keep (lv.lookup id) σ2)
          rw [← e]; exact hq) (G0 := G) (w0 := w) (fun a' w' G' σ' L l1 l2 l3 hE hR' hd ⟨σ2, hA, hK⟩ => apv_sound hT ht hA (keep_rel hR' _) (fun a2 w2 G2 e2 r2 d2 => ⟨G2, _, hE.trans (e2.ex B), keep_rel r2 _, hF.ext (hE.trans (e2.ex B)).ext (d2.trans hd), hK⟩) L l1 l2 l3)
        j (Array.replicate ops.size false) σ a { w with drawn := w.drawn + 1 } G (by simp) (fun i o ho hi => by
          have hlt : i < ops.size := by have := (List.getElem?_eq_some_iff.1 ho).1; simpa using this
          simp [Array.getD_eq_getD_getElem?, hlt] at hi) (fun i _ hi => by
          have hlt : i < ops.size := by simpa using hi
          simp [Array.getD_eq_getD_getElem?, hlt]) (by rw [hall]; simp) (hd.ex B) ⟨hR.inv.drewN _, hR.env.mono hd, hR.size⟩ rfl (Nat.le_refl _) (by rw [hall]; exact h4)
      rw [hops, ← hsz] at this
      exact this
    · rename_i p _ hj
      obtain ⟨h1, h2, h3, h4, h5⟩ := h
      obtain ⟨l, hl⟩ := Option.isSome_iff_exists.1 h4
      refine wpIn_region_any hm ?_
      have hsz : ops.size = ops.toList.length := by simp
      have hall : ((List.range p).filter fun i => !(Array.replicate ops.size false).getD i true) = List.range p := by
        rw [List.filter_eq_self]
        intro i hi
        have : i < ops.size := by have := List.mem_range.1 hi; omega
        simp [Array.getD_eq_getD_getElem?, this]
      have hd : Stp G w G { w with drawn := w.drawn + 1 } := Stp.drewN G w _
      have := dtwo_sound hT (rd := rd) (ops := ops.toList) h1 h3 (reachB_spec h2) (ds := a.defers) (Q := fun e a' w' => ∃ G' σ', Ex B G w G' w' ∧ Rel N G' σ' a' w' ∧ Fr rd lo G' a' w' ∧ Q e σ') (K := fun σ' => Q .normal (keep (lv.lookup id) σ')) (fun σ τ he hq => by
          have e : keep (lv.lookup id) σ = keep (lv.lookup id) τ := by
            rw [hl]
            simp only [keep, he.2, normE_congr l he.1]
          show Q .normal (keep (lv.lookup id) τ)
          rw [← e]; exact hq) (G0 := G) (w0 := w) (fun a' w' G' σ' hE hR' hd hK => ⟨G', _, hE, keep_rel hR' _, hF.ext hE.ext hd, hK⟩)
        ops.size (Array.replicate ops.size false) σ a { w with drawn := w.drawn + 1 } G (by simp) (fun i o ho hi => by
          have hlt : i < ops.size := by rw [hsz]; exact (List.getElem?_eq_some_iff.1 ho).1
          simp [Array.getD_eq_getD_getElem?, hlt] at hi) (fun i _ hi => by
          have hlt : i < ops.size := by simpa using hi
          simp [Array.getD_eq_getD_getElem?, hlt]) (by rw [hall]; simp at h3 ⊢; omega) (hd.ex B) ⟨hR.inv.drewN _, hR.env.mono hd, hR.size⟩ rfl (Nat.le_refl _) (by rw [hall]; exact h5)
      rw [hops] at this
      exact this
    · obtain ⟨h1, h2, h3⟩ := h
      obtain ⟨l, hl⟩ := Option.isSome_iff_exists.1 h2
      refine wpIn_region_any hm ?_
      have hsz : ops.size = ops.toList.length := by simp
      have hall : ((List.range ops.toList.length).filter fun i => !(Array.replicate ops.size false).getD i true) = List.range ops.toList.length := by
        rw [List.filter_eq_self]
        intro i hi
        have : i < ops.size := by simpa using hi
        simp [Array.getD_eq_getD_getElem?, this]
      have hd : Stp G w G { w with drawn := w.drawn + 1 } := Stp.drewN G w _
      have := dny_sound hT (rd := rd) (ops := ops.toList) h1 (ds := a.defers) (Q := fun e a' w' => ∃ G' σ', Ex B G w G' w' ∧ Rel N G' σ' a' w' ∧ Fr rd lo G' a' w' ∧ Q e σ') (K := fun σ' => Q .normal (keep (lv.lookup id) σ')) (fun σ τ he hq => by
          have e : keep (lv.lookup id) σ = keep (lv.lookup id) τ := by
            rw [hl]
            simp only [keep, he.2, normE_congr l he.1]
          show Q .normal (keep (lv.lookup id) τ)
          rw [← e]; exact hq) (G0 := G) (w0 := w) (fun a' w' G' σ' hE hR' hd hK => ⟨G', _, hE, keep_rel hR' _, hF.ext hE.ext hd, hK⟩)
        ops.size (Array.replicate ops.size false) σ a { w with drawn := w.drawn + 1 } G (by simp) (fun i o ho hi => by
          have hlt : i < ops.size := by rw [hsz]; exact (List.getElem?_eq_some_iff.1 ho).1
          simp [Array.getD_eq_getD_getElem?, hlt] at hi) (by rw [hall]; simp) (hd.ex B) ⟨hR.inv.drewN _, hR.env.mono hd, hR.size⟩ rfl (baseOf_le _ _) (by rw [hall]; exact h3)
      rw [hops] at this
      exact this
theorem bwp_sound (hm : P.follows .mixedOrders = true) (hT : TblOk P tb) {B : Nat × Nat} {N : Nat} {lv : List (Nat × List Nat)} : ∀ (c : Code) (Q : Exit → St → Prop) (σ : St), bwp B P tb N lv c Q σ → T B P N c Q σ
  | .skip, Q, σ, h => ⟨fun rd lo G a w hR hF => wpIn_skip ⟨G, σ, .refl B G w, hR, hF, h⟩⟩
  | .label l, Q, σ, h => ⟨fun rd lo G a w hR hF => wpIn_label ⟨G, σ, .refl B G w, hR, hF, h⟩⟩
  | .exit id, Q, σ, h => ⟨fun rd lo G a w hR hF => wpIn_exit ⟨G, σ, .refl B G w, hR, hF, h⟩⟩
  | .ret, Q, σ, h => ⟨fun rd lo G a w hR hF => wpIn_ret ⟨G, σ, .refl B G w, hR, hF, h⟩⟩
  | .goto l, Q, σ, h => ⟨fun rd lo G a w hR hF => wpIn_goto ⟨G, σ, .refl B G w, hR, hF, h⟩⟩
  | .scope b, Q, σ, h => by
    obtain ⟨M, h1, h2⟩ := h
    exact T_up h1 h2
  | .region id ops dr, Q, σ, h => by
    unfold bwp at h
    split at h
    · exact rwp_sound hm hT h
    · obtain ⟨τ, hl, h⟩ := h
      exact T_le hl (rwp_sound hm hT h)
  | .seq x y, Q, σ, h => by
    unfold bwp at h
    split at h
    · refine T_seq (bwp_sound hm hT x _ σ h) fun e σ' hq => ?_
      cases e with
      | normal => exact bwp_sound hm hT y Q σ' hq
      | _ => exact hq
    · obtain ⟨M, h1, h2⟩ := h
      refine T_seq (T_up (Q := fun e τ => match e with | .normal => bwp B P tb N lv y Q τ | e => Q e τ) (bwp_sound hm hT x M σ h1) h2) fun e σ' hq => ?_
      cases e with
      | normal => exact bwp_sound hm hT y Q σ' hq
      | _ => exact hq
  | .cond c x y, Q, σ, h => .mk fun rd lo G a w hR hF => by
    unfold bwp at h
    split at h
    · rename_i b hb
      have hc := ev_rel hR.env c _ hb
      have hv : a.eval c = .bool b := by
        generalize a.eval c = q at hc
        cases hc with | p _ _ hc => cases hc; rfl
      exact wpIn_cond_split hv (fun hb => (bwp_sound hm hT x Q σ (h.1 hb)).out rd lo G a w hR hF) (fun hb => (bwp_sound hm hT y Q σ (h.2 hb)).out rd lo G a w hR hF)
    · exact h.elim
  | .block id b, Q, σ, h => .mk fun rd lo G a w hR hF => by
    refine wpIn_block (wpIn_mono ((bwp_sound hm hT b _ σ h).out rd lo G a w hR hF) fun e a' w' ⟨G', σ', hE, hR', hF', hq⟩ => ?_)
    cases e with
    | normal => exact ⟨G', σ', hE, hR', hF', hq⟩
    | exit i =>
      have hq : if i = id then Q .normal σ' else Q (.exit i) σ' := hq
      show if i = id then _ else _
      split
      · rename_i hi; rw [if_pos hi] at hq; exact ⟨G', σ', hE, hR', hF', hq⟩
      · rename_i hi; rw [if_neg hi] at hq; exact ⟨G', σ', hE, hR', hF', hq⟩
    | goto l => exact ⟨G', σ', hE, hR', hF', hq⟩
    | ret => exact ⟨G', σ', hE, hR', hF', hq⟩
    | panic ch => exact ⟨G', σ', hE, hR', hF', hq⟩
    | outgrown => exact ⟨G', σ', hE, hR', hF', hq⟩
  | .loop b, Q, σ, h => by
    obtain ⟨M, h1, h2⟩ := h
    exact T_keep _ (T_up h1 h2)
  | .rangeFunc g ps x y, Q, σ, h => by
    obtain ⟨M, h1, h2⟩ := h
    exact T_keep _ (T_up h1 h2)
  | .refuse _, _, _, h => h.elim
/-- A loop, from within. -/
structure TL (B : Nat × Nat) (P : Program) (N : Nat) (c : Code) (Q : Exit → St → Prop) (σ : St) : Prop where
  out : ∀ rd lo G a w, Rel N G σ a w → Fr rd lo G a w → ∀ (b : Frame) (k : List Item) (cs : List Frame), b.roundOf = rd → ∃ e a' w', (∃ G' σ', Ex B G w G' w' ∧ Rel N G' σ' a' w' ∧ Fr rd lo G' a' w' ∧ Q e σ') ∧
    ArrivesIn (Machine.fenced P (FW rd)) P (lone (b.atR a (.code c :: .inLoop c :: k)) cs w) b k cs e a' w'
theorem TL.loop {B : Nat × Nat} {N : Nat} {c : Code} {Q : Exit → St → Prop} {σ : St} (h : TL B P N c Q σ) : T B P N (.loop c) Q σ := ⟨fun rd lo G a w hR hF b k cs hro hb hr => by
  obtain ⟨e, a', w', hq, harr⟩ := h.out rd lo G a w hR hF b k cs (hro.trans (FW_round rd))
  exact ⟨e, a', w', hq, .of_steps (.one (fenced_calm hb hr rfl) stepR_loop) harr⟩⟩
theorem TL.le {B : Nat × Nat} {N : Nat} {c : Code} {Q : Exit → St → Prop} {σ τ : St} (h : Le B N σ τ) (k : TL B P N c Q τ) : TL B P N c Q σ := ⟨fun rd lo G a w hR hF b ks cs hro => by
  obtain ⟨G1, e1, r1⟩ := h.out G a w hR
  obtain ⟨e, a', w', ⟨G', σ', hE, hR', hF', hq⟩, harr⟩ := k.out rd lo G1 a w r1 (hF.ext e1.ext rfl) b ks cs hro
  exact ⟨e, a', w', ⟨G', σ', e1.trans hE, hR', hF', hq⟩, harr⟩⟩
/-- A loop is a round and the loop anew. -/
theorem TL.round {B : Nat × Nat} {N : Nat} {c : Code} {Q : Exit → St → Prop} {σ : St} (h : T B P N c (fun e σ' => match e with | .normal => TL B P N c Q σ' | e => Q e σ') σ) : TL B P N c Q σ := ⟨fun rd lo G a w hR hF b k cs hro => by
  obtain ⟨e, a₁, w₁, ⟨G₁, σ₁, hE₁, hR₁, hF₁, hq⟩, harr⟩ := h.out rd lo G a w hR hF b (.inLoop c :: k) cs (hro.trans (FW_round rd).symm) (FW_fn _ _) (FW_room _ _)
  cases e with
  | normal =>
    obtain ⟨e₂, a₂, w₂, ⟨G₂, σ₂, hE₂, hR₂, hF₂, hq₂⟩, harr₂⟩ := hq.out rd lo G₁ a₁ w₁ hR₁ hF₁ b k cs hro
    exact ⟨e₂, a₂, w₂, ⟨G₂, σ₂, hE₁.trans hE₂, hR₂, hF₂, hq₂⟩, .of_steps (StepsIn.trans harr (.one (fenced_calm (n := 0) (FW_fn _ _) (FW_room _ _) rfl) stepR_inLoop)) harr₂⟩
  | exit id => exact ⟨_, a₁, w₁, ⟨G₁, σ₁, hE₁, hR₁, hF₁, hq⟩, .pass (x := .inLoop c) rfl (fun _ _ => .inl (by simp)) harr⟩
  | goto l => exact ⟨_, a₁, w₁, ⟨G₁, σ₁, hE₁, hR₁, hF₁, hq⟩, .pass (x := .inLoop c) rfl (fun _ _ => .inl (by simp)) harr⟩
  | ret => exact ⟨_, a₁, w₁, ⟨G₁, σ₁, hE₁, hR₁, hF₁, hq⟩, .pass (x := .inLoop c) rfl (fun _ _ => .inl (by simp)) harr⟩
  | panic ch => exact ⟨_, a₁, w₁, ⟨G₁, σ₁, hE₁, hR₁, hF₁, hq⟩, .pass (x := .inLoop c) rfl (fun _ _ => .inl (by simp)) harr⟩
  | outgrown => exact ⟨_, a₁, w₁, ⟨G₁, σ₁, hE₁, hR₁, hF₁, hq⟩, .pass (x := .inLoop c) rfl (fun _ _ => .inl (by simp)) harr⟩⟩

theorem stepR_scope {b : Frame} {a : Act} {k : List Item} {cs : List Frame} {w : World} {c : Code} : step P (lone (b.atR a (.code (.scope c) :: k)) cs w) = .next (lone (b.atR a (.code c :: .inScope c :: k)) cs w) :=
  step_lone_go (by simp [stepG, stepG.exec, Frame.atR])
/-- Code in a scope, up to the scope's end. -/
structure TG (B : Nat × Nat) (P : Program) (N : Nat) (s c : Code) (Q : Exit → St → Prop) (σ : St) : Prop where
  out : ∀ rd lo G a w, Rel N G σ a w → Fr rd lo G a w → ∀ (b : Frame) (k : List Item) (cs : List Frame), b.roundOf = rd → ∃ e a' w', (∃ G' σ', Ex B G w G' w' ∧ Rel N G' σ' a' w' ∧ Fr rd lo G' a' w' ∧ Q e σ') ∧
    ArrivesIn (Machine.fenced P (FW rd)) P (lone (b.atR a (.code c :: .inScope s :: k)) cs w) b k cs e a' w'
/-- Behind a jump to a label of the scope. -/
def gotoQ (B : Nat × Nat) (P : Program) (N : Nat) (s : Code) (l : Nat) (Q : Exit → St → Prop) (σ : St) : Prop := ∃ rest, findLabel s l = some rest ∧ TG B P N s rest Q σ
theorem TG.scope {B : Nat × Nat} {N : Nat} {s : Code} {Q : Exit → St → Prop} {σ : St} (h : TG B P N s s Q σ) : T B P N (.scope s) Q σ := ⟨fun rd lo G a w hR hF b k cs hro hb hr => by
  obtain ⟨e, a', w', hq, harr⟩ := h.out rd lo G a w hR hF b k cs (hro.trans (FW_round rd))
  exact ⟨e, a', w', hq, .of_steps (.one (fenced_calm hb hr rfl) stepR_scope) harr⟩⟩
theorem TG.le {B : Nat × Nat} {N : Nat} {s c : Code} {Q : Exit → St → Prop} {σ τ : St} (h : Le B N σ τ) (k : TG B P N s c Q τ) : TG B P N s c Q σ := ⟨fun rd lo G a w hR hF b ks cs hro => by
  obtain ⟨G1, e1, r1⟩ := h.out G a w hR
  obtain ⟨e, a', w', ⟨G', σ', hE, hR', hF', hq⟩, harr⟩ := k.out rd lo G1 a w r1 (hF.ext e1.ext rfl) b ks cs hro
  exact ⟨e, a', w', ⟨G', σ', e1.trans hE, hR', hF', hq⟩, harr⟩⟩
theorem arr_scope {rd : Option Nat} {m : Machine} {b : Frame} {s : Code} {k : List Item} {cs : List Frame} {e : Exit} {a : Act} {w : World} (hn : e ≠ .normal) (hg : ∀ l, e ≠ .goto l) (h : ArrivesIn (Machine.fenced P (FW rd)) P m b (.inScope s :: k) cs e a w) : ArrivesIn (Machine.fenced P (FW rd)) P m b k cs e a w := by
  cases e with
  | normal => exact absurd rfl hn
  | exit id => exact ⟨fun k' hk => h.1 k' (by simpa [exitTo] using hk), fun hr hk => h.2 hr (by simpa [exitTo] using hk)⟩
  | goto l => exact absurd rfl (hg l)
  | ret => exact h
  | panic ch => exact h
  | outgrown => exact h
theorem TG.seq {B : Nat × Nat} {N : Nat} {s x y : Code} {Q : Exit → St → Prop} {σ : St} (h : T B P N x (fun e σ' => match e with | .normal => TG B P N s y Q σ' | .goto l => gotoQ B P N s l Q σ' | e => Q e σ') σ) : TG B P N s (.seq x y) Q σ := ⟨fun rd lo G a w hR hF b k cs hro => by
  obtain ⟨e, a₁, w₁, ⟨G₁, σ₁, hE₁, hR₁, hF₁, hq⟩, harr⟩ := h.out rd lo G a w hR hF b (.code y :: .inScope s :: k) cs (hro.trans (FW_round rd).symm) (FW_fn _ _) (FW_room _ _)
  have h0 : (lone (b.atR a (.code (.seq x y) :: .inScope s :: k)) cs w).fenced P (FW rd) := fenced_calm (n := 0) (FW_fn _ _) (FW_room _ _) rfl
  have pass : ∀ {e}, e ≠ Exit.normal → ArrivesIn (Machine.fenced P (FW rd)) P (lone (b.atR a (.code x :: .code y :: .inScope s :: k)) cs w) b (.code y :: .inScope s :: k) cs e a₁ w₁ → ArrivesIn (Machine.fenced P (FW rd)) P (lone (b.atR a (.code x :: .code y :: .inScope s :: k)) cs w) b (.inScope s :: k) cs e a₁ w₁ := fun he h => .pass (x := .code y) rfl (fun _ _ => .inl he) h
  cases e with
  | normal =>
    obtain ⟨e₂, a₂, w₂, ⟨G₂, σ₂, hE₂, hR₂, hF₂, hq₂⟩, harr₂⟩ := hq.out rd lo G₁ a₁ w₁ hR₁ hF₁ b k cs hro
    exact ⟨e₂, a₂, w₂, ⟨G₂, σ₂, hE₁.trans hE₂, hR₂, hF₂, hq₂⟩, .of_steps (.head h0 stepR_seq harr) harr₂⟩
  | goto l =>
    obtain ⟨rest, hf, hq⟩ := hq
    obtain ⟨e₂, a₂, w₂, ⟨G₂, σ₂, hE₂, hR₂, hF₂, hq₂⟩, harr₂⟩ := hq.out rd lo G₁ a₁ w₁ hR₁ hF₁ b k cs hro
    exact ⟨e₂, a₂, w₂, ⟨G₂, σ₂, hE₁.trans hE₂, hR₂, hF₂, hq₂⟩, .of_steps (.head h0 stepR_seq (harr.1 _ (by simp [gotoIn, hf]))) harr₂⟩
  | exit id => exact ⟨_, a₁, w₁, ⟨G₁, σ₁, hE₁, hR₁, hF₁, hq⟩, .of_steps (.one h0 stepR_seq) (arr_scope (by simp) (by simp) (pass (by simp) harr))⟩
  | ret => exact ⟨_, a₁, w₁, ⟨G₁, σ₁, hE₁, hR₁, hF₁, hq⟩, .of_steps (.one h0 stepR_seq) (arr_scope (by simp) (by simp) (pass (by simp) harr))⟩
  | panic ch => exact ⟨_, a₁, w₁, ⟨G₁, σ₁, hE₁, hR₁, hF₁, hq⟩, .of_steps (.one h0 stepR_seq) (arr_scope (by simp) (by simp) (pass (by simp) harr))⟩
  | outgrown => exact ⟨_, a₁, w₁, ⟨G₁, σ₁, hE₁, hR₁, hF₁, hq⟩, .of_steps (.one h0 stepR_seq) (arr_scope (by simp) (by simp) (pass (by simp) harr))⟩⟩
theorem TG.label {B : Nat × Nat} {N : Nat} {s y : Code} {l : Nat} {Q : Exit → St → Prop} {σ : St} (h : TG B P N s y Q σ) : TG B P N s (.seq (.label l) y) Q σ := .seq ⟨fun rd lo G a w hR hF => wpIn_label ⟨G, σ, .refl B G w, hR, hF, h⟩⟩
theorem TG.skip {B : Nat × Nat} {N : Nat} {s y : Code} {Q : Exit → St → Prop} {σ : St} (h : TG B P N s y Q σ) : TG B P N s (.seq .skip y) Q σ := .seq ⟨fun rd lo G a w hR hF => wpIn_skip ⟨G, σ, .refl B G w, hR, hF, h⟩⟩
inductive LeE (env : Env) : Env → Prop where
  | nil : LeE env []
  | cons {t : Nat} {d d' : D} {r : Env} : env.lookup t = some d → LeD d d' → LeE env r → LeE env ((t, d') :: r)
inductive LeC : List D → List D → Prop where
  | nil : LeC [] []
  | cons {d d' : D} {r r' : List D} : LeD d d' → LeC r r' → LeC (d :: r) (d' :: r')
inductive LeH : List (List D) → List (List D) → Prop where
  | nil : LeH [] []
  | cons {d d' : List D} {r r' : List (List D)} : LeC d d' → LeH r r' → LeH (d :: r) (d' :: r')
theorem LeC.refl : ∀ l, LeC l l
  | [] => .nil
  | d :: r => .cons (.refl d) (LeC.refl r)
theorem LeH.refl : ∀ l, LeH l l
  | [] => .nil
  | d :: r => .cons (.refl d) (LeH.refl r)
theorem LeH.app {a a' b b' : List (List D)} (h : LeH a a') (k : LeH b b') : LeH (a ++ b) (a' ++ b') := by
  induction h with
  | nil => exact k
  | cons h1 _ ih => exact .cons h1 ih
theorem LeE.look {env env' : Env} (h : LeE env env') : ∀ {t : Nat} {d' : D}, env'.lookup t = some d' → ∃ d, env.lookup t = some d ∧ LeD d d' := by
  induction h with
  | nil => intro t d' h; cases h
  | @cons t0 d d0 r hl hd _ ih =>
    intro t d' h
    rw [List.lookup_cons] at h
    by_cases ht : t = t0
    · subst ht
      simp only [beq_self_eq_true, Option.some.injEq] at h
      subst h
      exact ⟨d, hl, hd⟩
    · have hb : (t == t0) = false := by simpa using ht
      rw [hb] at h
      exact ih h
theorem LeC.get {l l' : List D} (h : LeC l l') : l.length = l'.length ∧ ∀ (j : Nat) d', l'[j]? = some d' → ∃ d, l[j]? = some d ∧ LeD d d' := by
  induction h with
  | nil => exact ⟨rfl, fun j d' h => by simp at h⟩
  | @cons d d0 r r' hd _ ih =>
    refine ⟨by simp [ih.1], fun j d' hj => ?_⟩
    cases j with
    | zero => simp at hj; subst hj; exact ⟨d, rfl, hd⟩
    | succ j => exact ih.2 j d' (by simpa using hj)
theorem LeH.get {l l' : List (List D)} (h : LeH l l') : l.length = l'.length ∧ ∀ (j : Nat) d', l'[j]? = some d' → ∃ d, l[j]? = some d ∧ LeC d d' := by
  induction h with
  | nil => exact ⟨rfl, fun j d' h => by simp at h⟩
  | @cons d d0 r r' hd _ ih =>
    refine ⟨by simp [ih.1], fun j d' hj => ?_⟩
    cases j with
    | zero => simp at hj; subst hj; exact ⟨d, rfl, hd⟩
    | succ j => exact ih.2 j d' (by simpa using hj)
theorem Inv.le {G : Gh} {h h' : List (List D)} {live : List Nat} {w : World} (hI : Inv G ⟨h, live⟩ w) (k : LeH h h') : Inv G ⟨h', live⟩ w := by
  obtain ⟨k1, k2⟩ := k.get
  refine ⟨hI.com, by rw [hI.names]; exact k1, hI.nodup, fun i b cs' hb hcs' => ?_, hI.live, hI.tok, hI.pro, hI.glob⟩
  obtain ⟨cs, hcs, hle⟩ := k2 i cs' hcs'
  obtain ⟨l1, l2⟩ := hle.get
  obtain ⟨us, ty, h1, h2, h3⟩ := hI.var i b cs hb hcs
  refine ⟨us, ty, h1, by rw [h2]; exact l1, fun j c' u hc' hu => ?_⟩
  obtain ⟨c, hc, hd⟩ := l2 j c' hc'
  obtain ⟨g1, g2⟩ := h3 j c u hc hu
  exact ⟨g1, g2.le hd⟩
/-- The state in other words. -/
theorem Le.weak {B : Nat × Nat} {N : Nat} {env env' : Env} {h h' : List (List D)} {live live' : List Nat} (he : LeE env env') (hh : LeH h h') (hl : live = live') : Le B N ⟨env, ⟨h, live⟩⟩ ⟨env', ⟨h', live'⟩⟩ := ⟨fun G a w hR => by
  subst hl
  refine ⟨G, .refl B G w, ⟨hR.inv.le hh, fun t d' hd => ?_, hR.size⟩⟩
  obtain ⟨d, h1, h2⟩ := he.look hd
  obtain ⟨k1, k2⟩ := hR.env t d h1
  exact ⟨k1, k2.le h2⟩⟩
/-- The first k variables and m tokens stay, all else is forgotten; then in other words. -/
theorem Le.tow (k m : Nat) {B : Nat × Nat} {N : Nat} {env env1 env' : Env} {s : S} {h' : List (List D)} {live' : List Nat} (h : keepE k m env = some env1) (he : LeE env1 env') (hh : LeH (s.heap.take k) h') (hlv : s.live.take m = live')
    (h1 : B.1 ≤ k := by exact Nat.le_of_ble_eq_true rfl) (h2 : B.2 ≤ m := by exact Nat.le_of_ble_eq_true rfl)
    (hl : (s.heap.take k).all (fun cs => cs.all (D.lt k m)) = true := by exact rfl) : Le B N ⟨env, s⟩ ⟨env', ⟨h', live'⟩⟩ :=
  (Le.to k m (τ := ⟨env1, ⟨s.heap.take k, s.live.take m⟩⟩) (by rw [h]; rfl) h1 h2 hl).trans (Le.weak he hh hlv)

section
variable {A C E : Type} {B : Nat × Nat} {N : Nat}
def JP1 (B : Nat × Nat) (N : Nat) (o : A) (e1 : Exit) (st1 : A → St) : Exit → St → Prop := fun e σ => e = e1 ∧ Le B N σ (st1 o)
def JP2 (B : Nat × Nat) (N : Nat) (o : A ⊕ C) (e1 : Exit) (st1 : A → St) (e2 : Exit) (st2 : C → St) : Exit → St → Prop := fun e σ => (e = e1 ∧ ∃ y, o = .inl y ∧ Le B N σ (st1 y)) ∨ (e = e2 ∧ ∃ y, o = .inr y ∧ Le B N σ (st2 y))
def JP3 (B : Nat × Nat) (N : Nat) (o : A ⊕ C ⊕ E) (e1 : Exit) (st1 : A → St) (e2 : Exit) (st2 : C → St) (e3 : Exit) (st3 : E → St) : Exit → St → Prop := fun e σ =>
  (e = e1 ∧ ∃ y, o = .inl y ∧ Le B N σ (st1 y)) ∨ (e = e2 ∧ ∃ y, o = .inr (.inl y) ∧ Le B N σ (st2 y)) ∨ (e = e3 ∧ ∃ y, o = .inr (.inr y) ∧ Le B N σ (st3 y))
theorem JP1.a {o y : A} {e1 : Exit} {st1 : A → St} {σ : St} (h : some y = some o) (hl : Le B N σ (st1 y)) : JP1 B N o e1 st1 e1 σ := by cases h; exact ⟨rfl, hl⟩
theorem JP2.a {o : A ⊕ C} {y : A} {e1 e2 : Exit} {st1 : A → St} {st2 : C → St} {σ : St} (h : some (.inl y) = some o) (hl : Le B N σ (st1 y)) : JP2 B N o e1 st1 e2 st2 e1 σ := by cases h; exact .inl ⟨rfl, y, rfl, hl⟩
theorem JP2.b {o : A ⊕ C} {y : C} {e1 e2 : Exit} {st1 : A → St} {st2 : C → St} {σ : St} (h : some (.inr y) = some o) (hl : Le B N σ (st2 y)) : JP2 B N o e1 st1 e2 st2 e2 σ := by cases h; exact .inr ⟨rfl, y, rfl, hl⟩
theorem JP3.a {o : A ⊕ C ⊕ E} {y : A} {e1 e2 e3 : Exit} {st1 : A → St} {st2 : C → St} {st3 : E → St} {σ : St} (h : some (.inl y) = some o) (hl : Le B N σ (st1 y)) : JP3 B N o e1 st1 e2 st2 e3 st3 e1 σ := by cases h; exact .inl ⟨rfl, y, rfl, hl⟩
theorem JP3.b {o : A ⊕ C ⊕ E} {y : C} {e1 e2 e3 : Exit} {st1 : A → St} {st2 : C → St} {st3 : E → St} {σ : St} (h : some (.inr (.inl y)) = some o) (hl : Le B N σ (st2 y)) : JP3 B N o e1 st1 e2 st2 e3 st3 e2 σ := by cases h; exact .inr (.inl ⟨rfl, y, rfl, hl⟩)
theorem JP3.c {o : A ⊕ C ⊕ E} {y : E} {e1 e2 e3 : Exit} {st1 : A → St} {st2 : C → St} {st3 : E → St} {σ : St} (h : some (.inr (.inr y)) = some o) (hl : Le B N σ (st3 y)) : JP3 B N o e1 st1 e2 st2 e3 st3 e3 σ := by cases h; exact .inr (.inr ⟨rfl, y, rfl, hl⟩)
theorem join1 {o : A} {e1 : Exit} {st1 : A → St} {G : Exit → St → Prop} (k : G e1 (st1 o)) : ∀ e σ, JP1 B N o e1 st1 e σ → ∃ τ, Le B N σ τ ∧ G e τ := fun e σ ⟨he, hl⟩ => he ▸ ⟨_, hl, k⟩
theorem join2 {o : A ⊕ C} {e1 e2 : Exit} {st1 : A → St} {st2 : C → St} {G : Exit → St → Prop} (k1 : ∀ y, o = .inl y → G e1 (st1 y)) (k2 : ∀ y, o = .inr y → G e2 (st2 y)) : ∀ e σ, JP2 B N o e1 st1 e2 st2 e σ → ∃ τ, Le B N σ τ ∧ G e τ := fun e σ h => by
  rcases h with ⟨he, y, ho, hl⟩ | ⟨he, y, ho, hl⟩
  · exact he ▸ ⟨_, hl, k1 y ho⟩
  · exact he ▸ ⟨_, hl, k2 y ho⟩
end
theorem bT {φ ψ : Prop} (h : φ) : (true = true → φ) ∧ (true = false → ψ) := And.intro (fun _ => h) (fun e => nomatch e)
theorem bF {φ ψ : Prop} (h : φ) : (false = true → ψ) ∧ (false = false → φ) := And.intro (fun e => nomatch e) (fun _ => h)
theorem mapSize {α : Type} {c : α → List V} {l : List α} {sz : Nat} (h : ∀ x, (c x).length = sz) : ∀ x ∈ l.map c, x.length = sz := fun x hx => by
  obtain ⟨z, -, rfl⟩ := List.mem_map.1 hx; exact h z
section
variable {R : Type}
theorem st_test {b : Bool} {X Y : Option R} {r : R} {φ ψ : Prop} (h : (if b = true then X else Y) = some r) (k1 : b = true → X = some r → φ) (k2 : b = false → Y = some r → ψ) : (b = true → φ) ∧ (b = false → ψ) :=
  ⟨fun e => k1 e (by rw [e] at h; exact h), fun e => k2 e (by rw [e] at h; exact h)⟩
theorem st_bind {α : Type} {x : Option α} {f : α → Option R} {r : R} {φ : Prop} (h : (x >>= f) = some r) (k : ∀ y, x = some y → f y = some r → φ) : φ := by
  obtain ⟨y, hy, hf⟩ := Option.bind_eq_some_iff.1 h
  exact k y hy hf
/-- The element at a place. -/
def idx {α : Type} (l : List α) (i : Int) : Option α := if 0 ≤ i then l[i.toNat]? else none
theorem st_idx {α : Type} {l : List α} {i : Int} {c c' : α → List V} {f : α → Option R} {r : R} {sz : Nat} {K : List V → Prop} (h : (idx l i >>= f) = some r) (hc : ∀ x, c x = c' x) (hs : ∀ x, (c' x).length = sz) (hz : 0 < sz) (k : ∀ x, idx l i = some x → f x = some r → K (c' x)) :
    ∃ cell, 0 ≤ i ∧ (l.map c)[i.toNat]? = some cell ∧ cell.length = sz ∧ 0 < sz ∧ K cell := by
  refine st_bind h fun x hx hf => ?_
  have hk := k x hx hf
  unfold idx at hx
  split at hx
  · rename_i hi
    exact ⟨c' x, hi, by rw [List.getElem?_map, hx, Option.map_some, hc], hs x, hz, hk⟩
  · cases hx
theorem st_sidx {l : List UInt8} {i : Int} {f : UInt8 → Option R} {r : R} {K : UInt8 → Prop} (h : (idx l i >>= f) = some r) (k : ∀ x, idx l i = some x → f x = some r → K x) : ∃ c, 0 ≤ i ∧ l[i.toNat]? = some c ∧ K c := by
  refine st_bind h fun x hx hf => ?_
  have hk := k x hx hf
  unfold idx at hx
  split at hx
  · rename_i hi
    exact ⟨x, hi, hx, hk⟩
  · cases hx
/-- What must be so. -/
def need (p : Prop) [Decidable p] : Option Unit := if p then some () else none
theorem st_need {p : Prop} [Decidable p] {f : Unit → Option R} {r : R} {φ : Prop} (h : (need p >>= f) = some r) (k : f () = some r → φ) : p ∧ φ := by
  refine st_bind h fun x hx hf => ?_
  unfold need at hx
  split at hx
  · exact ⟨by assumption, k hf⟩
  · cases hx
/-- From lo to hi. -/
def cutL {α : Type} (l : List α) (lo hi : Int) : Option (List α) := if 0 ≤ lo ∧ lo ≤ hi ∧ hi ≤ l.length then some ((l.take hi.toNat).drop lo.toNat) else none
theorem view {d d' : D} {l live : List Nat} {K : D → List Nat → Prop} (h : LeD d d') (hl : live = l) (k : K d' live) : ∃ d' live, LeD d d' ∧ live = l ∧ K d' live := ⟨d', live, h, hl, k⟩
theorem vrfl {d : D} {l : List Nat} {K : D → List Nat → Prop} (k : K d l) : ∃ d' live, LeD d d' ∧ live = l ∧ K d' live := ⟨d, l, .refl d, rfl, k⟩
theorem lenMap {α : Type} (l : List α) (c : α → List V) : LeD (.p (.v (.int .i64 (l.map c).length))) (.p (.v (.int .i64 l.length))) := .eq (by rw [List.length_map])
theorem cutMap {α : Type} {l m : List α} {lo hi : Int} (c : α → List V) (h : cutL l lo hi = some m) : cutOk (some lo) (some hi) (l.map c).length ∧ ((l.map c).take hi.toNat).drop lo.toNat = m.map c := by
  unfold cutL at h
  split at h
  · rename_i hc
    cases h
    refine ⟨⟨hc.1, hc.2.1, by rw [List.length_map]; exact hc.2.2⟩, by rw [List.map_drop, List.map_take]⟩
  · cases h
theorem cutStr {l m : List UInt8} {lo hi : Int} (h : cutL l lo hi = some m) : cutOk (some lo) (some hi) l.length ∧ (l.take hi.toNat).drop lo.toNat = m := by
  unfold cutL at h
  split at h
  · rename_i hc
    cases h
    exact ⟨⟨hc.1, hc.2.1, hc.2.2⟩, rfl⟩
  · cases h
theorem st_cut {α R : Type} {l : List α} {c : α → List V} (lo hi : Option Int) {f : List α → Option R} {r : R} {full : Bool} {lv : List Nat} {K : D → List Nat → Prop} {sz : Nat} (h : (cutL l (lo.getD 0) (hi.getD l.length) >>= f) = some r) (hs : ∀ x, (c x).length = sz)
    (k : ∀ m, cutL l (lo.getD 0) (hi.getD l.length) = some m → f m = some r → K (.p (.sl (full && hi.isNone) (m.map c))) lv) :
    cutOk lo hi (l.map c).length ∧ (lo = none ∨ ∀ x ∈ l.map c, x.length = sz) ∧ ∃ d' live, LeD (.p (.sl (full && hi.isNone) (((l.map c).take (hi.getD (l.map c).length).toNat).drop (lo.getD 0).toNat))) d' ∧ live = lv ∧ K d' live := by
  refine st_bind h fun m hm hf => ?_
  obtain ⟨⟨h1, h2, h3⟩, h4⟩ := cutMap c hm
  have e : (hi.getD (l.map c).length) = hi.getD (l.length : Int) := by rw [List.length_map]
  refine ⟨⟨h1, ?_, ?_⟩, .inr fun x hx => ?_, _, _, .eq ?_, rfl, k m hm hf⟩
  · rw [e]; exact h2
  · rw [e]; exact h3
  · obtain ⟨z, -, rfl⟩ := List.mem_map.1 hx; exact hs z
  · rw [e, h4]
theorem st_cuts {R : Type} {l : List UInt8} (lo hi : Option Int) {f : List UInt8 → Option R} {r : R} {lv : List Nat} {K : D → List Nat → Prop} (h : (cutL l (lo.getD 0) (hi.getD l.length) >>= f) = some r)
    (k : ∀ m, cutL l (lo.getD 0) (hi.getD l.length) = some m → f m = some r → K (.p (.v (strOf m))) lv) :
    cutOk lo hi l.length ∧ ∃ d' live, LeD (.p (.v (strOf ((l.take (hi.getD l.length).toNat).drop (lo.getD 0).toNat)))) d' ∧ live = lv ∧ K d' live := by
  refine st_bind h fun m hm hf => ?_
  obtain ⟨⟨h1, h2, h3⟩, h4⟩ := cutStr hm
  exact ⟨⟨h1, h2, h3⟩, _, _, .eq (by rw [h4]), rfl, k m hm hf⟩
end

theorem PCall.weak {f : FuncId} {xs ys : List V} {r : D} (h : PCall P f ys r) (k : LeL xs ys) : PCall P f xs r :=
  ⟨h.fn, fun C w us hgl hl hrel => h.out C w us hgl (by rw [hl]; exact k.1) fun j y u hy hu => by
    obtain ⟨x, hx⟩ := getLen k.1 hy
    exact (hrel j x u hx hu).le (k.2 j x y hx hy)⟩
theorem PCall.to {f : FuncId} {xs : List V} {r r' : D} (h : PCall P f xs r) (k : LeD r r') : PCall P f xs r' :=
  ⟨h.fn, fun C w us hgl hl hrel => (h.out C w us hgl hl hrel).mono fun e w' ⟨u, he, hd, hb⟩ => ⟨u, he, hd.le k, hb⟩⟩
/-- A function out of its walk; the marks of its loops over functions are taken on its way out. -/
theorem calls_of_T {f : FuncId} {fn : Func} {c : Code} {us : Array Value} {G : Gh} {w : World} {B : Nat × Nat} {Q : Exit → St → Prop} {σ0 : St} {R : Ending → World → Prop} (hf : P.funcs[f]? = some fn) (hb : fn.body = some c) (h : T B P fn.ntmps c Q σ0)
    (hR : Rel fn.ntmps G σ0 { tmps := us ++ Array.replicate (fn.ntmps - us.size) undef, defers := [] } w)
    (hQ : ∀ e G' σ' a' w', Ex B G w G' w' → Rel fn.ntmps G' σ' a' w' → Q e σ' → (e = .normal ∨ e = .ret) ∧ ∃ v, (results fn a'.tmps).run P w' = .ok v w' ∧ R (.returned v) w') : Calls P f us w R := by
  refine callsIn_wide.1 (callsIn_of_wp_marks (F := Fence.wide) (n := 0) hf hb trivial (wpIn_mono (h.out none w.heap.size G _ w hR (.none rfl)) ?_))
  rintro e a' w' ⟨G', σ', hE, hR', hF', hq⟩
  have key : ∀ (Ds : List Nat) (w' : World), Ds.Nodup → Ex B G w G' w' → Rel fn.ntmps G' σ' a' w' → (∀ b ∈ Ds, w.heap.size ≤ b ∧ w'.heap[b]? = some (.deferred (some [])) ∧ b ∉ G'.name ∧ ∀ T ∈ G'.tok, ¬ T.has b) → LeavesInM Fence.wide 0 P fn a'.tmps R (Ds.map markOf) .returning w' := by
    intro Ds
    induction Ds with
    | nil => exact fun w' _ hE hR' _ => (hQ e G' σ' a' w' hE hR' hq).2
    | cons b Ds ih =>
      intro w' hnd hE hR' hD
      obtain ⟨d1, d2, d3, d4⟩ := hD b (by simp)
      have hnb : ¬ G'.has b := fun hh => hh.elim d3 fun ⟨T, hT, ht⟩ => d4 T hT ht
      have hk : Kept G'.has G'.com w' (w'.putObj b (.deferred none)) := putObj_kept _ d2 (noCells_def d2) hnb
      refine ⟨by simp, .inl ⟨b, _, rfl, run_takeDeferred d2, ih _ (List.nodup_cons.1 hnd).2 (hE.kept hk fun i hi => World.putObj_heap_other (by omega)) (hR'.kept hk) fun i hi => ?_⟩⟩
      obtain ⟨k1, k2, k3⟩ := hD i (by simp [hi])
      refine ⟨k1, ?_, k3⟩
      rw [World.putObj_heap_other (fun (e : i = b) => (List.nodup_cons.1 hnd).1 (e ▸ hi))]
      exact k2
  obtain ⟨Ds, m1, m2, m3⟩ := hF'.marks
  have hl := key Ds w' m2 hE hR' m3
  rw [← m1] at hl
  rcases (hQ e G' σ' a' w' hE hR' hq).1 with rfl | rfl
  · exact hl
  · exact hl
/-- A function out of its walk, what it hands back in other words. -/
theorem PCall.ofB (hm : P.follows .mixedOrders = true) (hT : TblOk P tb) {f : FuncId} {fn : Func} {c : Code} (lv : List (Nat × List Nat)) (hf : P.funcs[f]? = some fn) (hb : fn.body = some c) (hn : isFn P f = true) {args : List V} (hN : args.length ≤ fn.ntmps) {r : D}
    (h : bwp (0, 0) P tb fn.ntmps lv c (retQ tb fn.results.toList fun d => LeD d r) ⟨args0 args 0, ⟨[], []⟩⟩) : PCall P f args r := by
  refine ⟨hn, fun C w us hgl hl hrel => ?_⟩
  have hR : Rel fn.ntmps ⟨fun b o => C b o ∧ b < w.heap.size, [], []⟩ ⟨args0 args 0, ⟨[], []⟩⟩ { tmps := us ++ Array.replicate (fn.ntmps - us.size) undef, defers := [] } w := by
    refine ⟨⟨fun b o h => ⟨h.2, by simp, by simp⟩, rfl, by simp, fun i b cs h => by simp at h, rfl, fun t T b h => by simp at h, fun T h => by simp at h, hgl.mono fun b o u h1 h2 => ⟨⟨h1, cellLt h2⟩, h2⟩⟩, fun t d hd => ?_, by simp; omega⟩
    obtain ⟨x, h1, h2, rfl⟩ := args0_look args 0 t d hd
    have hlt : t < args.length := (List.getElem?_eq_some_iff.1 h1).1
    have hlt2 : t < us.size := by omega
    refine ⟨by simp; omega, .p x _ (DRel.lt ?_)⟩
    refine hrel t x _ h1 ?_
    simp only [Array.getD_eq_getD_getElem?, Array.getElem?_append_left hlt2, Array.getElem?_eq_getElem hlt2, Option.getD_some]
  refine calls_of_T hf hb (bwp_sound hm hT c _ _ h) hR fun e G' σ' a' w' hE hR' hq => ?_
  have key : ∀ (hq : resAll tb σ' fn.results.toList fun ds => match retD ds with | some d => LeD d r | none => False), ∃ v, (results fn a'.tmps).run P w' = .ok v w' ∧
      ∃ u, Ending.returned v = .returned u ∧ DRel ⟨fun b o => C b o ∨ w.heap.size ≤ b, [], []⟩ w' r u ∧ Below w.heap.size w w' := fun hq => by
    obtain ⟨ds, us', h1, h2, h3, h4⟩ := resAll_sound hT hR' _ _ hq
    split at h4
    · rename_i d hd
      obtain ⟨k1, k2⟩ := retD_rel h2 h3 hd
      refine ⟨if h : us'.toArray.size = 1 then us'.toArray[0] else .tuple us'.toArray, ?_, _, rfl, DRel.le ?_ h4, ⟨hE.ext.os, hE.ext.tape, hE.ext.output, hE.ext.size, fun k hk => hE.ext.old k hk (by simp) (by simp)⟩⟩
      · unfold results
        rw [Sem.run_bind, Array.mapM_eq_mapM_toList, Sem.run_map]
        erw [h1]
        rfl
      · have hcom : ∀ b o, G'.com b o → C b o ∨ w.heap.size ≤ b := fun b o hc => by
          rcases hE.ext.new b o hc with h | h | h | ⟨T, h, _⟩
          · exact .inl h.1
          · exact .inr h
          · simp at h
          · simp at h
        rcases k2 with ⟨x, rfl⟩ | ⟨xs, rfl⟩
        · generalize (if h : us'.toArray.size = 1 then us'.toArray[0] else Value.tuple us'.toArray) = q at k1
          cases k1 with
          | p _ _ k1 => exact .p _ _ (k1.mono (Nat.le_refl _) fun b o u h1 h2 => ⟨hcom b o h1, h2⟩)
        · generalize (if h : us'.toArray.size = 1 then us'.toArray[0] else Value.tuple us'.toArray) = q at k1
          cases k1 with
          | tup _ vs l1 l2 =>
            refine .tup _ _ l1 (fun j c u hc hu => ?_)
            have := l2 j c u hc hu
            rw [List.getElem?_map] at hc
            obtain ⟨x, -, rfl⟩ := Option.map_eq_some_iff.1 hc
            cases this with
            | p _ _ k1 => exact .p _ _ (k1.mono (Nat.le_refl _) fun b o u h1 h2 => ⟨hcom b o h1, h2⟩)
    · exact h4.elim
  cases e with
  | normal => exact ⟨.inl rfl, key hq⟩
  | ret => exact ⟨.inr rfl, key hq⟩
  | _ => exact hq.elim
theorem st_call {α R : Type} {x : Option α} {f : α → Option R} {r : R} {g : FuncId} (xs : List V) (t : α → D) {gn : Bool} {s : S} {K : D → S → Prop} (h : (x >>= f) = some r) (hok : ∀ y, x = some y → PCall P g xs (t y)) (k : ∀ y, x = some y → f y = some r → K (t y) s) :
    ∃ r s', CallC gn P g (xs.map .p) s r s' ∧ K r s' := st_bind h fun y hy hf => ⟨t y, s, (hok y hy).c, k y hy hf⟩
theorem st_calld {α R : Type} {x : Option α} {f : α → Option R} {r : R} {g : FuncId} (xs : List V) (t : α → D) {base : Nat} {s : S} {K : D → S → Prop} (h : (x >>= f) = some r) (hok : ∀ y, x = some y → PCall P g xs (t y)) (k : ∀ y, x = some y → f y = some r → K (t y) s) :
    ∃ r s', CallD base P g (xs.map .p) s r s' ∧ K r s' := st_bind h fun y hy hf => ⟨t y, s, (hok y hy).d, k y hy hf⟩
/-- A call that may turn variables. -/
theorem st_callc {α R : Type} {x : Option α} {f : α → Option R} {r : R} {g : FuncId} {args : List D} {s : S} (t : α → D) (s' : α → S) {K : D → S → Prop} (h : (x >>= f) = some r) (hok : ∀ y, x = some y → CallOK P g args s (t y) (s' y)) (k : ∀ y, x = some y → f y = some r → K (t y) (s' y)) :
    ∃ r s', CallC true P g args s r s' ∧ K r s' := st_bind h fun y hy hf => ⟨t y, s' y, (hok y hy).g, k y hy hf⟩
theorem st_callq {α R : Type} {x : Option α} {f : α → Option R} {r : R} {g : FuncId} {args : List D} {s : S} {base : Nat} (t : α → D) {K : D → S → Prop} (h : (x >>= f) = some r) (hok : ∀ y, x = some y → CallD base P g args s (t y) s) (k : ∀ y, x = some y → f y = some r → K (t y) s) :
    ∃ r s', CallD base P g args s r s' ∧ K r s' := st_bind h fun y hy hf => ⟨t y, s, hok y hy, k y hy hf⟩
def selOk (m n : Nat) (J : List Nat) : Bool := nodupB J && J.all (Nat.blt · n) && (J.take m == List.range m)
theorem range_get {n i : Nat} (h : i < n) : (List.range n)[i]? = some i := List.getElem?_range h
theorem map_range {α : Type} (A B : List α) (d : α) : (List.range A.length).map ((A ++ B).getD · d) = A := by
  apply List.ext_getElem?
  intro i
  rw [List.getElem?_map]
  by_cases h : i < A.length
  · rw [range_get h]
    simp [List.getD, List.getElem?_append_left h, h]
  · rw [List.getElem?_eq_none (by simpa using Nat.le_of_not_lt h), List.getElem?_eq_none (Nat.le_of_not_lt h)]; rfl
theorem sel_stp {G G' : Gh} {w w' : World} {n m : Nat} {J : List Nat} (hE : Ex (n, m) G w G' w') (hn : G.name.length = n) (hm : G.tok.length = m) (hn' : n ≤ G'.name.length) (hJ : ∀ j ∈ J, j < G'.tok.length) (hid : J.take m = List.range m) : Stp G w (G'.sub (List.range n) J) w' := by
  have hI : ∀ i ∈ List.range n, i < G'.name.length := fun i hi => by have := List.mem_range.1 hi; omega
  refine ⟨⟨hE.ext.os, hE.ext.tape, hE.ext.output, hE.ext.size, hE.ext.com, hE.ext.old, hE.ext.new, fun b hb => ?_, hE.ext.mono, hE.ext.shp⟩, fun nm b hb => ?_, fun t T ht => ?_⟩
  · rcases hb with hb | ⟨T, hT, hb⟩
    · exact hE.ext.mine b (.inl (mem_sub hI hb))
    · exact hE.ext.mine b (.inr ⟨T, mem_sub hJ hT, hb⟩)
  · have hl : nm < n := by rw [← hn]; exact (List.getElem?_eq_some_iff.1 hb).1
    rw [sub_name (range_get hl) (by omega)]
    exact hE.name nm b hl hb
  · have hl : t < m := by rw [← hm]; exact (List.getElem?_eq_some_iff.1 ht).1
    obtain ⟨T', h1, h2⟩ := hE.tok t T hl ht
    have hJt : J[t]? = some t := by
      have := congrArg (·[t]?) hid
      simp only [List.getElem?_take, if_pos hl, range_get hl] at this
      exact this
    exact ⟨T', by rw [sub_tok hJt (hJ t (List.mem_of_getElem? hJt))]; exact h1, h2⟩
/-- What a function that is handed variables ends with. -/
structure EndR (n m : Nat) (s' : S) (r d : D) (t : S) : Prop where
  ex : ∃ J, selOk m t.live.length J = true ∧ LeD d (r.ren (List.range n) J) ∧ LeH (t.heap.take n) (s'.heap.map fun cs => cs.map (D.ren (List.range n) J)) ∧ J.map (t.live.getD · 0) = s'.live
/-- A function that is handed variables, out of its walk. -/
theorem CallOK.ofB (hm : P.follows .mixedOrders = true) (hT : TblOk P tb) {f : FuncId} {fn : Func} {c : Code} (lv : List (Nat × List Nat)) (hf : P.funcs[f]? = some fn) (hb : fn.body = some c) (hn : isFn P f = true) {args : List D} (hN : args.length ≤ fn.ntmps) {s s' : S} {r : D}
    (hr : r.lt s.heap.length s'.live.length = true) (hs : s'.heap.all (fun cs => cs.all (D.lt s.heap.length s'.live.length)) = true)
    (hn' : s'.heap.length = s.heap.length)
    (h : bwp (s.heap.length, s.live.length) P tb fn.ntmps lv c (fun e σ => ∃ τ, Le (s.heap.length, s.live.length) fn.ntmps σ τ ∧ retR tb fn.results.toList (EndR s.heap.length s.live.length s' r) e τ) ⟨argsD args 0, s⟩) : CallOK P f args s r s' := by
  refine ⟨hn, fun G w us hI hl hrel => ?_⟩
  have hR : Rel fn.ntmps G ⟨argsD args 0, s⟩ { tmps := us ++ Array.replicate (fn.ntmps - us.size) undef, defers := [] } w := by
    refine ⟨hI, fun t d hd => ?_, by simp; omega⟩
    obtain ⟨h1, h2⟩ := argsD_look args 0 t d hd
    have hlt : t < args.length := (List.getElem?_eq_some_iff.1 h1).1
    have hlt2 : t < us.size := by omega
    refine ⟨by simp; omega, ?_⟩
    refine hrel t d _ h1 ?_
    simp only [Array.getD_eq_getD_getElem?, Array.getElem?_append_left hlt2, Array.getElem?_eq_getElem hlt2, Option.getD_some]
  have hln : G.name.length = s.heap.length := hI.names
  have hlt : G.tok.length = s.live.length := by rw [← hI.live]; simp
  refine calls_of_T hf hb (T_up (bwp_sound hm hT c _ _ h) fun e σ' hq => hq) hR fun e G' σ' a' w' hE hR' hq => ?_
  have key : ∀ (hq : resAll tb σ' fn.results.toList fun ds => EndR s.heap.length s.live.length s' r (retE ds) σ'.s), ∃ v, (results fn a'.tmps).run P w' = .ok v w' ∧
      ∃ u G', Ending.returned v = .returned u ∧ Stp G w G' w' ∧ Inv G' s' w' ∧ DRel G' w' r u := fun hq => by
    obtain ⟨ds, us', h1, h2, h3, ⟨J, hJ0, h4, h5, h6⟩⟩ := resAll_sound hT hR' _ _ hq
    unfold selOk at hJ0
    simp only [Bool.and_eq_true] at hJ0
    obtain ⟨⟨hJ1, hJ2⟩, hJ3⟩ := hJ0
    have nJ := nodupB_spec J hJ1
    have bJ := all_blt hJ2
    have lT : G'.tok.length = σ'.s.live.length := by have := congrArg List.length hR'.inv.live; simpa using this
    have hd := (retE_rel h2 h3).le h4
    have h7 := LeH.app h5 (LeH.refl (σ'.s.heap.drop s.heap.length))
    rw [List.take_append_drop] at h7
    have hinv1 := Inv.le (h := σ'.s.heap) (live := σ'.s.live) hR'.inv h7
    have hlen : (s'.heap.map fun cs => cs.map (D.ren (List.range s.heap.length) J)).length = s.heap.length := by rw [List.length_map]; exact hn'
    have hlJ : J.length = s'.live.length := by rw [← h6]; simp
    have hnl : s.heap.length ≤ G'.name.length := by rw [hinv1.names]; simp only [List.length_append, hlen]; omega
    have hinv2 : Inv (G'.sub (List.range s.heap.length) J) ⟨s'.heap, s'.live⟩ w' := hinv1.sub (I := List.range s.heap.length) (J := J) List.nodup_range nJ (fun i hi => by have := List.mem_range.1 hi; simp only [List.length_append, hlen]; omega) bJ (by
      have := map_range (s'.heap.map fun cs => cs.map (D.ren (List.range s.heap.length) J)) (σ'.s.heap.drop s.heap.length) []
      rw [hlen] at this
      exact this) h6 (by rw [List.length_range, hlJ]; exact hs)
    have hst : Stp G w (G'.sub (List.range s.heap.length) J) w' := sel_stp hE hln hlt hnl (fun j hj => by rw [lT]; exact bJ j hj) (by simpa using hJ3)
    refine ⟨if h : us'.toArray.size = 1 then us'.toArray[0] else .tuple us'.toArray, ?_, _, _, rfl, hst, hinv2, ren_sub (fun i hi => by have := List.mem_range.1 hi; omega) (fun j hj => by rw [lT]; exact bJ j hj) (by rw [List.length_range, hlJ]; exact hr) hd⟩
    unfold results
    rw [Sem.run_bind, Array.mapM_eq_mapM_toList, Sem.run_map]
    erw [h1]
    rfl
  cases e with
  | normal => exact ⟨.inl rfl, key hq⟩
  | ret => exact ⟨.inr rfl, key hq⟩
  | _ => exact hq.elim
theorem st_retc {α : Type} {x y : α} {d : D} {u : S} {n m : Nat} {t : α → D} {ss : α → S} (h : some x = some y) (k : EndR n m (ss x) (t x) d u) : EndR n m (ss y) (t y) d u := by cases h; exact k
theorem st_ret {α : Type} {x y : α} {d : D} {t : α → D} (h : some x = some y) (k : LeD d (t x)) : LeD d (t y) := by cases h; exact k
end
section
variable {P : Program} {tb : Tbl}
/-- A variable that no one turns any more, as data. -/
def pubC (heap : List (List D)) : D → Option V
  | .ptr nm off => match heap[nm]? with
    | some cs => (unps cs).map fun vs => .ep (vs.drop off)
    | none => none
  | d => unp d
def pubL (heap : List (List D)) : List D → Option (List V)
  | [] => some []
  | d :: r => match pubC heap d, pubL heap r with
    | some x, some y => some (x :: y)
    | _, _ => none
def pubD (heap : List (List D)) : D → Option D
  | .fn f [] cap => (pubL heap cap).map fun vs => .fn f [] (vs.map .p)
  | .agg cs => (pubL heap cs).map fun vs => .p (.agg vs)
  | d => (pubC heap d).map .p
def pubR (heap : List (List D)) : List D → Option D
  | [d] => pubD heap d
  | ds => (pubL heap ds).map fun xs => .tup (xs.map .p)
theorem pubC_rel {G : Gh} {s : S} {w : World} (hI : Inv G s w) {d : D} {x : V} {u : Value} (h : DRel G w d u) (hd : pubC s.heap d = some x) : VRel (fun b o => G.com b o ∨ b ∈ G.name) w x u := by
  have up : ∀ {y : V} {v : Value}, VRel G.com w y v → VRel (fun b o => G.com b o ∨ b ∈ G.name) w y v := fun h => h.mono (Nat.le_refl _) fun b o u h1 h2 => ⟨.inl h1, h2⟩
  unfold pubC at hd
  split at hd
  · rename_i nm off
    cases h with
    | ptr _ _ b hb =>
      split at hd
      · rename_i cs hcs
        obtain ⟨vs, hv, rfl⟩ := Option.map_eq_some_iff.1 hd
        obtain ⟨us, ty, h1, h2, h3⟩ := hI.var nm b cs hb hcs
        obtain ⟨l1, l2⟩ := unps_rel (G := G) (w := w) cs vs hv
        refine .ep _ b off (fun k => us.getD (off + k) undef) (fun k c hk => ?_) (fun k c hk => ?_)
        all_goals
          rw [List.getElem?_drop] at hk
          obtain ⟨d, hd, hx⟩ := l2 _ c hk
          have hlt : off + k < us.size := by rw [h2]; exact (List.getElem?_eq_some_iff.1 hd).1
          obtain ⟨g1, g2⟩ := h3 _ d us[off + k] hd (Array.getElem?_eq_getElem hlt)
          have hg : us.getD (off + k) undef = us[off + k] := by simp [Array.getD_eq_getD_getElem?, hlt]
        · refine ⟨.inr (List.mem_of_getElem? hb), ?_, by rw [hg]; exact g1⟩
          rw [cell_of_row w b _ us ty (0, 0) h1, hg]
          exact Array.getElem?_eq_getElem hlt
        · show VRel _ w c (us.getD (off + k) undef)
          rw [hg]; exact up (unp_rel g2 hx)
      · cases hd
  · exact up (unp_rel h hd)
theorem pubL_rel {G : Gh} {s : S} {w : World} (hI : Inv G s w) : ∀ (ds : List D) (xs : List V), pubL s.heap ds = some xs → xs.length = ds.length ∧ ∀ (j : Nat) x, xs[j]? = some x → ∃ d, ds[j]? = some d ∧ pubC s.heap d = some x
  | [], xs, h => by simp [pubL] at h; subst h; exact ⟨rfl, fun j x hx => by simp at hx⟩
  | d :: r, xs, h => by
    unfold pubL at h
    split at h
    · rename_i x y hx hy
      cases h
      obtain ⟨h1, h2⟩ := pubL_rel hI r y hy
      refine ⟨by simp [h1], fun j z hz => ?_⟩
      cases j with
      | zero => simp at hz; subst hz; exact ⟨d, rfl, hx⟩
      | succ j => exact h2 j z hz
    · cases h
theorem pubD_rel {G : Gh} {s : S} {w : World} (hI : Inv G s w) {d d' : D} {u : Value} (h : DRel G w d u) (hd : pubD s.heap d = some d') : DRel ⟨fun b o => G.com b o ∨ b ∈ G.name, [], []⟩ w d' u := by
  unfold pubD at hd
  split at hd
  · rename_i f cap
    obtain ⟨vs, hv, rfl⟩ := Option.map_eq_some_iff.1 hd
    obtain ⟨l1, l2⟩ := pubL_rel hI cap vs hv
    cases h with
    | fn _ _ _ us ws k1 k2 k3 k4 =>
      refine .fn f [] _ us ws k1 (by simp [l1, k2]) (fun j c u hc => by simp at hc) (fun j c u hc hu => ?_)
      rw [List.getElem?_map] at hc
      obtain ⟨x, hx, rfl⟩ := Option.map_eq_some_iff.1 hc
      obtain ⟨d, hd, hp⟩ := l2 j x hx
      exact .p _ _ (pubC_rel hI (k4 j d u hd hu) hp)
  · rename_i cs
    obtain ⟨vs, hv, rfl⟩ := Option.map_eq_some_iff.1 hd
    obtain ⟨l1, l2⟩ := pubL_rel hI cs vs hv
    cases h with
    | agg _ us k1 k2 k3 =>
      refine .p _ _ (.agg _ us (by rw [l1, k1]) (fun j c u hc hu => ?_) (fun j c u hc hu => ?_))
      · obtain ⟨d, hd, -⟩ := l2 j c hc
        exact k2 j d u hd hu
      · obtain ⟨d, hd, hp⟩ := l2 j c hc
        exact pubC_rel hI (k3 j d u hd hu) hp
  · obtain ⟨x, hx, rfl⟩ := Option.map_eq_some_iff.1 hd
    exact .p _ _ (pubC_rel hI h hx)
theorem pubR_rel {G : Gh} {s : S} {w : World} (hI : Inv G s w) {ds : List D} {us : List Value} (hl : us.length = ds.length) (h : ∀ (j : Nat) d u, ds[j]? = some d → us[j]? = some u → DRel G w d u) {r : D} (hr : pubR s.heap ds = some r) :
    DRel ⟨fun b o => G.com b o ∨ b ∈ G.name, [], []⟩ w r (if h : us.toArray.size = 1 then us.toArray[0] else .tuple us.toArray) := by
  unfold pubR at hr
  split at hr
  · rename_i d
    match us, hl with
    | [u], _ => exact pubD_rel hI (h 0 d u rfl rfl) hr
  · rename_i hne
    obtain ⟨xs, hx, rfl⟩ := Option.map_eq_some_iff.1 hr
    obtain ⟨u1, u2⟩ := pubL_rel hI ds xs hx
    have hsz : ¬ us.toArray.size = 1 := by
      simp only [List.size_toArray, hl]
      intro h1
      match ds, h1 with
      | [d], _ => exact hne d rfl
    rw [dif_neg hsz]
    refine .tup _ _ (by simp [u1, hl]) (fun j c u hc hu => ?_)
    rw [List.getElem?_map] at hc
    obtain ⟨x, hx', rfl⟩ := Option.map_eq_some_iff.1 hc
    obtain ⟨d, hd, hxd⟩ := u2 j x hx'
    exact .p _ _ (pubC_rel hI (h j d u hd (by simpa using hu)) hxd)
def retM (tb : Tbl) (rs : List ResultVar) (R : D → Prop) (e : Exit) (σ : St) : Prop :=
  match e with
  | .normal => resAll tb σ rs fun ds => match pubR σ.s.heap ds with | some d => R d | none => False
  | .ret => resAll tb σ rs fun ds => match pubR σ.s.heap ds with | some d => R d | none => False
  | _ => False
/-- A function that hands back what points into its own variables: they are turned no more. -/
theorem PCall.ofM (hm : P.follows .mixedOrders = true) (hT : TblOk P tb) {f : FuncId} {fn : Func} {c : Code} (lv : List (Nat × List Nat)) (hf : P.funcs[f]? = some fn) (hb : fn.body = some c) (hn : isFn P f = true) {args : List V} (hN : args.length ≤ fn.ntmps) {r : D}
    (h : bwp (0, 0) P tb fn.ntmps lv c (retM tb fn.results.toList fun d => LeD d r) ⟨args0 args 0, ⟨[], []⟩⟩) : PCall P f args r := by
  refine ⟨hn, fun C w us hgl hl hrel => ?_⟩
  have hR : Rel fn.ntmps ⟨fun b o => C b o ∧ b < w.heap.size, [], []⟩ ⟨args0 args 0, ⟨[], []⟩⟩ { tmps := us ++ Array.replicate (fn.ntmps - us.size) undef, defers := [] } w := by
    refine ⟨⟨fun b o h => ⟨h.2, by simp, by simp⟩, rfl, by simp, fun i b cs h => by simp at h, rfl, fun t T b h => by simp at h, fun T h => by simp at h, hgl.mono fun b o u h1 h2 => ⟨⟨h1, cellLt h2⟩, h2⟩⟩, fun t d hd => ?_, by simp; omega⟩
    obtain ⟨x, h1, h2, rfl⟩ := args0_look args 0 t d hd
    have hlt : t < args.length := (List.getElem?_eq_some_iff.1 h1).1
    have hlt2 : t < us.size := by omega
    refine ⟨by simp; omega, .p x _ (DRel.lt ?_)⟩
    refine hrel t x _ h1 ?_
    simp only [Array.getD_eq_getD_getElem?, Array.getElem?_append_left hlt2, Array.getElem?_eq_getElem hlt2, Option.getD_some]
  refine calls_of_T hf hb (bwp_sound hm hT c _ _ h) hR fun e G' σ' a' w' hE hR' hq => ?_
  have key : ∀ (hq : resAll tb σ' fn.results.toList fun ds => match pubR σ'.s.heap ds with | some d => LeD d r | none => False), ∃ v, (results fn a'.tmps).run P w' = .ok v w' ∧
      ∃ u, Ending.returned v = .returned u ∧ DRel ⟨fun b o => C b o ∨ w.heap.size ≤ b, [], []⟩ w' r u ∧ Below w.heap.size w w' := fun hq => by
    obtain ⟨ds, us', h1, h2, h3, h4⟩ := resAll_sound hT hR' _ _ hq
    split at h4
    · rename_i d hd
      refine ⟨if h : us'.toArray.size = 1 then us'.toArray[0] else .tuple us'.toArray, ?_, _, rfl, DRel.le (DRel.weak (pubR_rel hR'.inv h2 h3 hd) fun b o hc => ?_) h4, ⟨hE.ext.os, hE.ext.tape, hE.ext.output, hE.ext.size, fun k hk => hE.ext.old k hk (by simp) (by simp)⟩⟩
      · unfold results
        rw [Sem.run_bind, Array.mapM_eq_mapM_toList, Sem.run_map]
        erw [h1]
        rfl
      · rcases hc with hc | hc
        · rcases hE.ext.new b o hc with h | h | h | ⟨T, h, _⟩
          · exact .inl h.1
          · exact .inr h
          · simp at h
          · simp at h
        · rcases hE.ext.mine b (.inl hc) with h | h | ⟨T, h, _⟩
          · exact .inr h
          · simp at h
          · simp at h
    · exact h4.elim
  cases e with
  | normal => exact ⟨.inl rfl, key hq⟩
  | ret => exact ⟨.inr rfl, key hq⟩
  | _ => exact hq.elim
/-- How an iterator ends: all is handed over; or the loop has said no. -/
def IEnd (N : Nat) (xs : List (List V)) (e : Exit) (σ : St) : Prop :=
  ((e = .normal ∨ e = .ret) ∧ Le (0, 1) N σ ⟨[], ⟨[], [xs.length]⟩⟩) ∨ ((e = .normal ∨ e = .ret) ∧ Le (0, 1) N σ ⟨[], ⟨[], [xs.length + 1]⟩⟩)
/-- An iterator, out of its walk. -/
theorem IterOK.ofB (hm : P.follows .mixedOrders = true) (hT : TblOk P tb) {f : FuncId} {fn : Func} {c : Code} (lv : List (Nat × List Nat)) (hf : P.funcs[f]? = some fn) (hb : fn.body = some c) (hn : isFn P f = true) {cap : List V} {xs : List (List V)} (hN : cap.length + 1 ≤ fn.ntmps)
    (hres : fn.results.toList = []) (h : bwp (0, 1) P tb fn.ntmps lv c (fun e σ => ∃ τ, Le (0, 1) fn.ntmps σ τ ∧ IEnd fn.ntmps xs e τ) ⟨argsD (.yld P 0 xs :: cap.map .p) 0, ⟨[], [0]⟩⟩) : IterOK P f cap xs := by
  refine ⟨hn, fun G w us hI hl hrel => ?_⟩
  have hlen : (D.yld P 0 xs :: cap.map .p).length = cap.length + 1 := by simp
  have hR : Rel fn.ntmps G ⟨argsD (.yld P 0 xs :: cap.map .p) 0, ⟨[], [0]⟩⟩ { tmps := us ++ Array.replicate (fn.ntmps - us.size) undef, defers := [] } w := by
    refine ⟨hI, fun t d hd => ?_, by simp; omega⟩
    obtain ⟨h1, h2⟩ := argsD_look _ 0 t d hd
    have hlt : t < (D.yld P 0 xs :: cap.map .p).length := (List.getElem?_eq_some_iff.1 h1).1
    have hlt2 : t < us.size := by omega
    refine ⟨by simp; omega, ?_⟩
    refine hrel t d _ h1 ?_
    simp only [Array.getD_eq_getD_getElem?, Array.getElem?_append_left hlt2, Array.getElem?_eq_getElem hlt2, Option.getD_some]
  refine calls_of_T hf hb (T_up (bwp_sound hm hT c _ _ h) fun e σ' hq => hq) hR fun e G' σ' a' w' hE hR' hq => ?_
  have hnm : G.name.length ≤ 0 := by rw [hI.names]; exact Nat.le_refl _
  have htk : G.tok.length ≤ 1 := by have := congrArg List.length hI.live; simp at this; omega
  have hrun : ∃ v, (results fn a'.tmps).run P w' = .ok v w' ∧ ∀ G, DRel G w' (.tup []) v := by
    have e1 : fn.results = #[] := by rw [← Array.toArray_toList (xs := fn.results), hres]
    refine ⟨.tuple #[], ?_, fun G => .tup [] #[] rfl fun j c u hc => by simp at hc⟩
    unfold results
    rw [e1]
    simp
  obtain ⟨v, hv, hvr⟩ := hrun
  rcases hq with ⟨he, hle⟩ | ⟨he, hle⟩
  · obtain ⟨G2, e2, r2⟩ := hle.out G' a' w' hR'
    exact ⟨he, v, hv, v, G2, .tup [], _, rfl, (hE.trans e2).stp hnm htk, r2.inv, hvr _, .inl rfl⟩
  · obtain ⟨G2, e2, r2⟩ := hle.out G' a' w' hR'
    exact ⟨he, v, hv, v, G2, .tup [], _, rfl, (hE.trans e2).stp hnm htk, r2.inv, hvr _, .inr rfl⟩
end
@[reducible] def wr (n : Int) : Int := IntKind.i64.wrap n
def nV (k : IntKind) (n : Int) : V := .v (.int k n)
def cInt (n : Int) : List V := [iV n]
def cStr (l : List UInt8) : List V := [sV l]
def cSl {α : Type} (c : α → List V) (l : List α) : List V := [.sl false (l.map c)]
end Go.Proofs.YtebkhehjfkmdiaaDoor
end

section
set_option linter.unusedVariables false
namespace Go.Proofs.YtebkhehjfkmdiaaDoor
open Go.RowKit
theorem RelL.of_le {xs ys : List V} (h : LeL xs ys) : RelL xs ys := fun C w us hu hr => ⟨hu.trans h.1, fun j y u hy hu => by
  obtain ⟨x, hx⟩ := getLen h.1 hy
  exact (hr j x u hx hu).le (h.2 j x y hx hy)⟩
/-- A new row of n elements. -/
def mkL {α : Type} (bytes : Nat) (n : Int) (z : α) : Option (List α) := if 0 ≤ n ∧ n * bytes ≤ 140737488355328 ∧ n ≤ 9223372036854775807 then some (List.replicate n.toNat z) else none
def rgP : Code → List Nat
  | .rangeFunc _ ps _ _ => ps.toList
  | _ => []
def rgA : Code → Code
  | .rangeFunc _ _ a _ => a
  | _ => .skip
def rgB : Code → Code
  | .rangeFunc _ _ _ b => b
  | _ => .skip
section
variable {P : Program}
theorem st_callt {α R : Type} {x : Option α} {f : α → Option R} {r : R} {g : FuncId} {args : List D} {s : S} {base : Nat} (t : α → D) (s' : α → S) {K : D → S → Prop} (h : (x >>= f) = some r) (hok : ∀ y, x = some y → CallT base P g args s (t y) (s' y)) (k : ∀ y, x = some y → f y = some r → K (t y) (s' y)) :
    ∃ r s', CallT base P g args s r s' ∧ K r s' := st_bind h fun y hy hf => ⟨t y, s' y, hok y hy, k y hy hf⟩
theorem rl_cons {k m N : Nat} {ps : List Nat} {asn body : Code} {env : Env} {Q : Exit → St → Prop} {α : Type} {c : α → List V} {x : α} {r : List α} {s : S}
    (h : T (k, m) P N asn (fun e σ1 => e = .normal ∧ T (k, m) P N body (fun e σ2 => ∃ s', Le (k, m) N ⟨[], σ2.s⟩ ⟨[], s'⟩ ∧ s'.heap.length = k ∧ s'.live.length = m ∧
      match e with
      | .normal => RL k m P N ps asn body env Q (r.map c) s'
      | .ret => Q .ret ⟨env, s'⟩
      | .exit i => Q (.exit i) ⟨env, s'⟩
      | _ => False) σ1) ⟨putP ps (c x) env, s⟩) : RL k m P N ps asn body env Q ((x :: r).map c) s := h
theorem rl_nil {k m N : Nat} {ps : List Nat} {asn body : Code} {env : Env} {Q : Exit → St → Prop} {α : Type} {c : α → List V} {s : S} (h : Q .normal ⟨env, s⟩) : RL k m P N ps asn body env Q (([] : List α).map c) s := h
/-- The loop has said no. -/
def Stop (B : Nat × Nat) (N : Nat) (xs : List (List V)) (σ : St) : Prop := ∃ s', Le B N σ ⟨[], s'⟩ ∧ s'.heap.length = B.1 ∧ s'.live.length = B.2 ∧ s'.live[0]? = some (xs.length + 1)
def Qs (B : Nat × Nat) (N : Nat) (xs : List (List V)) (J : Exit → St → Prop) (e : Exit) (σ : St) : Prop := J e σ ∨ (e = .ret ∧ Stop B N xs σ)
theorem env0 {B : Nat × Nat} {N : Nat} {env : Env} {s : S} : Le B N ⟨env, s⟩ ⟨[], s⟩ := ⟨fun G a w hR => ⟨G, .refl B G w, ⟨hR.inv, fun t d h => by simp at h, hR.size⟩⟩⟩
theorem le01 {N : Nat} {σ : St} {n : Nat} (h : σ.s.live[0]? = some n) : Le (0, 1) N σ ⟨[], ⟨[], [n]⟩⟩ := by
  obtain ⟨env, s⟩ := σ
  refine env0.trans (Le.tow 0 1 rfl .nil .nil ?_ (Nat.le_refl _) (Nat.le_refl _) rfl)
  cases hs : s.live with
  | nil => simp [hs] at h
  | cons a l => simp [hs] at h; simp [h]
theorem st_istop {N : Nat} {xs : List (List V)} {e : Exit} {σ : St} (he : e = .normal ∨ e = .ret) (h : σ.s.live[0]? = some (xs.length + 1)) : ∃ τ, Le (0, 1) N σ τ ∧ IEnd N xs e τ := ⟨_, le01 h, .inr ⟨he, .refl _ _ _⟩⟩
theorem st_iend {α O : Type} {c : α → List V} {N : Nat} {xs pre : List (List V)} {e : Exit} {σ : St} {l : List α} {y o2 : O} (h : some ([], y) = some (l, o2)) (hx : xs = pre ++ (l.map c ++ [])) (he : e = .normal ∨ e = .ret) (hl : σ.s.live[0]? = some pre.length) : ∃ τ, Le (0, 1) N σ τ ∧ IEnd N xs e τ := by
  cases h
  have : xs.length = pre.length := by rw [hx]; simp
  refine ⟨_, le01 hl, .inl ⟨he, ?_⟩⟩
  rw [this]
  exact .refl _ _ _
theorem sndI {α O : Type} {l : List α} {y o2 : O} (h : some (([] : List α), y) = some (l, o2)) : some y = some o2 := by cases h; rfl
theorem liveQ {α O : Type} {c : α → List V} {xs pre gq post : List (List V)} {l : List α} {y o2 : O} {L L' : List Nat} (h : some ([], y) = some (l, o2)) (hx : xs = pre ++ (l.map c ++ post)) (hq : xs = gq ++ post) (hl : L = pre.length :: L') : L = gq.length :: L' := by
  cases h
  have e1 : xs.length = pre.length + post.length := by rw [hx]; simp
  have e2 : xs.length = gq.length + post.length := by rw [hq]; simp
  rw [hl, show pre.length = gq.length by omega]
theorem joinS {B : Nat × Nat} {N : Nat} {xs : List (List V)} {J G : Exit → St → Prop} (k : ∀ e σ, J e σ → ∃ τ, Le B N σ τ ∧ G e τ) (s : ∀ s' : S, s'.heap.length = B.1 → s'.live.length = B.2 → s'.live[0]? = some (xs.length + 1) → G .ret ⟨[], s'⟩) : ∀ e σ, Qs B N xs J e σ → ∃ τ, Le B N σ τ ∧ G e τ := fun e σ h => by
  rcases h with h | ⟨rfl, s', h1, h2, h3, h4⟩
  · exact k e σ h
  · exact ⟨_, h1, s s' h2 h3 h4⟩
theorem st_yld {α O : Type} {c : α → List V} {xs pre post : List (List V)} {x : α} {m : Option (List α × O)} {l : List α} {o2 : O} {t : Nat} {ds : List D} {vs : List V} {s : S} {K : D → S → Prop}
    (h : (m >>= fun q => some (x :: q.1, q.2)) = some (l, o2)) (hx : xs = pre ++ (l.map c ++ post)) (hl : LeL vs (c x)) (hu : unps ds = some vs) (hlive : s.live[t]? = some pre.length)
    (k1 : ∀ l', m = some (l', o2) → xs = (pre ++ [c x]) ++ (l'.map c ++ post) → K (.p (.v (.bool true))) ⟨s.heap, s.live.set t (pre ++ [c x]).length⟩) (k2 : K (.p (.v (.bool false))) ⟨s.heap, s.live.set t (xs.length + 1)⟩) :
    true = true ∧ P = P ∧ aYield t xs ds s K := by
  obtain ⟨q, hm, hq⟩ := Option.bind_eq_some_iff.1 h
  cases hq
  have e : xs = (pre ++ [c x]) ++ (q.1.map c ++ post) := by rw [hx]; simp
  refine ⟨rfl, rfl, pre.length, c x, vs, hlive, ?_, hu, .of_le hl, ?_, k2⟩
  · rw [hx]; simp
  · have := k1 q.1 hm e
    rw [List.length_append] at this
    exact this
theorem st_bindI {α O R : Type} {c : α → List V} {xs pre post : List (List V)} {m : Option (List α × O)} {f : List α × O → Option (List α × R)} {l : List α} {o2 : R} {φ : Prop}
    (h : (m >>= fun o => f o >>= fun q => some (o.1 ++ q.1, q.2)) = some (l, o2)) (hx : xs = pre ++ (l.map c ++ post))
    (k : ∀ o l2 gq, m = some o → f o = some (l2, o2) → xs = pre ++ (o.1.map c ++ (l2.map c ++ post)) → xs = gq ++ (l2.map c ++ post) → φ) : φ := by
  obtain ⟨o, ho, hf⟩ := Option.bind_eq_some_iff.1 h
  obtain ⟨q, hq, he⟩ := Option.bind_eq_some_iff.1 hf
  cases he
  exact k o q.1 (pre ++ o.1.map c) ho hq (by rw [hx]; simp) (by rw [hx]; simp)
/-- All slots forgotten. -/
theorem Le.env0 {B : Nat × Nat} {N : Nat} (σ : St) : Le B N σ ⟨[], σ.s⟩ := ⟨fun G _ w hR => ⟨G, .refl B G w, ⟨hR.inv, fun t d h => by simp at h, hR.size⟩⟩⟩
end
theorem st_xmk {α R : Type} {bytes : Nat} {n : Int} {z : α} {c : α → List V} {zs : List V} {f : List α → Option R} {r : R} {sz : Nat} {K : List (List V) → Prop} (h : (mkL bytes n z >>= f) = some r) (hc : zs = c z) (hz : zs.length = sz ∧ 0 < sz) (k : ∀ l, mkL bytes n z = some l → f l = some r → K (l.map c)) :
    (zs.length = sz ∧ 0 < sz) ∧ (0 ≤ n ∧ n = n ∧ n * bytes ≤ 140737488355328 ∧ n ≤ 9223372036854775807) ∧ ∃ es', LeLL (List.replicate n.toNat zs) es' ∧ K es' := by
  refine st_bind h fun l hl hf => ?_
  have hk := k l hl hf
  unfold mkL at hl
  split at hl
  · rename_i hn
    cases hl
    exact ⟨hz, ⟨hn.1, rfl, hn.2⟩, _, .eq (by rw [List.map_replicate, ← hc]), hk⟩
  · cases hl
theorem st_xidx {α R : Type} {l : List α} {i : Int} {c c' : α → List V} {f : α → Option R} {r : R} {sz tk v : Nat} {lv : List Nat} {K : List V → Prop} (h : (idx l i >>= f) = some r) (hl : lv[tk]? = some v) (hc : ∀ x, c x = c' x) (hs : ∀ x, (c' x).length = sz) (hz : 0 < sz) (k : ∀ x, idx l i = some x → f x = some r → K (c' x)) :
    lv[tk]? = some v ∧ ∃ cell, 0 ≤ i ∧ (l.map c)[i.toNat]? = some cell ∧ cell.length = sz ∧ 0 < sz ∧ K cell := ⟨hl, st_idx h hc hs hz k⟩
theorem setMap {α : Type} {l : List α} {c : α → List V} {i : Nat} {x : List V} {y : α} (h : LeL x (c y)) : LeLL ((l.map c).set i x) ((l.set i y).map c) := by
  refine ⟨by simp, fun j e e' he he' => ?_⟩
  rw [List.getElem?_map] at he'
  obtain ⟨z, hz, rfl⟩ := Option.map_eq_some_iff.1 he'
  by_cases hij : i = j
  · subst hij
    have hlt : i < l.length := by have := (List.getElem?_eq_some_iff.1 hz).1; simpa using this
    rw [List.getElem?_set_self (by simpa using hlt)] at he
    rw [List.getElem?_set_self hlt] at hz
    cases he; cases hz
    exact h
  · rw [List.getElem?_set_ne hij, List.getElem?_map] at he
    rw [List.getElem?_set_ne hij] at hz
    rw [hz] at he
    cases he
    exact .refl _
end Go.Proofs.YtebkhehjfkmdiaaDoor
end

section
namespace Go.Proofs.YtebkhehjfkmdiaaDoor
open Go.RowKit

abbrev mx : Nat := 9223372036854775807
@[simp] theorem idx_nat {α : Type} (l : List α) (i : Nat) : idx l (i : Int) = l[i]? := by
  unfold idx
  rw [if_pos (by omega)]
  rfl
@[simp] theorem idx_0 {α : Type} (l : List α) : idx l 0 = l[0]? := idx_nat l 0
@[simp] theorem idx_1 {α : Type} (l : List α) : idx l 1 = l[1]? := idx_nat l 1
@[simp] theorem bind_some' {α β : Type} (x : α) (f : α → Option β) : (some x >>= f) = f x := rfl
theorem wr_in {n : Int} (h1 : -9223372036854775808 ≤ n) (h2 : n ≤ 9223372036854775807) : wr n = n := w64 h1 h2
theorem wr_succ {i : Nat} (h : i < 9223372036854775807) : wr ((i : Int) + 1) = ((i + 1 : Nat) : Int) := by rw [wr_in (by omega) (by omega)]; rfl
theorem cutL_ok {α : Type} {l : List α} {lo hi : Int} (h1 : 0 ≤ lo) (h2 : lo ≤ hi) (h3 : hi ≤ l.length) : cutL l lo hi = some ((l.take hi.toNat).drop lo.toNat) := by
  unfold cutL; rw [if_pos ⟨h1, h2, h3⟩]
theorem need_ok {p : Prop} [Decidable p] (h : p) : need p = some () := by unfold need; rw [if_pos h]
theorem getE {α : Type} {l : List α} {i : Nat} (h : i < l.length) : l[i]? = some l[i] := List.getElem?_eq_getElem h
theorem ltI (a b : Nat) : decide ((a : Int) < (b : Int)) = decide (a < b) := by
  congr 1; exact propext Int.ofNat_lt
/-- A loop over a list's places: what holds of the tail from i on. -/
theorem upto {α : Type} {l : List α} {φ : Nat → Prop} (h0 : φ l.length) (h : ∀ i, i < l.length → φ (i + 1) → φ i) : ∀ i, i ≤ l.length → φ i := by
  have key : ∀ n i, l.length - i = n → i ≤ l.length → φ i := by
    intro n
    induction n with
    | zero => intro i h1 h2; have : i = l.length := by omega
              subst this; exact h0
    | succ n ih => intro i h1 h2; exact h i (by omega) (ih (i + 1) (by omega) (by omega))
  exact fun i hi => key _ i rfl hi
theorem dropE {α : Type} {l : List α} {i : Nat} (h : i < l.length) : l.drop i = l[i] :: l.drop (i + 1) := List.drop_eq_getElem_cons h
end Go.Proofs.YtebkhehjfkmdiaaDoor
end

section
namespace Go.Proofs
open Go.Shelf
def Tryd.lays156_ren : Go.Shelf.Ren := ⟨fun | 156 => 42 | 165 => 69 | 166 => 70 | 169 => 71 | 240 => 89 | 241 => 90 | 276 => 108 | 277 => 109 | n => n, fun | 31 => 28 | 9 => 9 | 3 => 3 | 4 => 4 | 0 => 0 | 20 => 20 | 72 => 80 | 76 => 84 | 70 => 78 | 37 => 43 | 75 => 83 | 127 => 99 | 164 => 115 | 5 => 5 | 80 => 49 | n => n, fun | n => n⟩
theorem Tryd.lays156 : Go.Proofs.Lays.n156 Tryd.prog Tryd.lays156_ren := {
  mixed := by kernel_rfl
  f156 := Tryd.func42.trans (congrArg some (by kernel_rfl))
  f165 := Tryd.func69.trans (congrArg some (by kernel_rfl))
  f166 := Tryd.func70.trans (congrArg some (by kernel_rfl))
  f169 := Tryd.func71.trans (congrArg some (by kernel_rfl))
  f240 := Tryd.func89.trans (congrArg some (by kernel_rfl))
  f241 := Tryd.func90.trans (congrArg some (by kernel_rfl))
  f276 := Tryd.func108.trans (congrArg some (by kernel_rfl))
  f277 := Tryd.func109.trans (congrArg some (by kernel_rfl))
  t0 := Tryd.underlying0
  a0 := Tryd.isAgg0
  z0 := Tryd.sizeOf0
  v0 := Tryd.zeroValue0
  t3 := Tryd.underlying3
  a3 := Tryd.isAgg3
  z3 := Tryd.sizeOf3
  v3 := Tryd.zeroValue3
  t4 := Tryd.underlying4
  a4 := Tryd.isAgg4
  z4 := Tryd.sizeOf4
  v4 := Tryd.zeroValue4
  t9 := Tryd.underlying9
  a9 := Tryd.isAgg9
  z9 := Tryd.sizeOf9
  v9 := Tryd.zeroValue9
  t20 := Tryd.underlying20
  a20 := Tryd.isAgg20
  z20 := Tryd.sizeOf20
  v20 := Tryd.zeroValue20
  t31 := Tryd.underlying28
  a31 := Tryd.isAgg28
  z31 := Tryd.sizeOf28
  v31 := Tryd.zeroValue28
  t37 := Tryd.underlying43
  a37 := Tryd.isAgg43
  z37 := Tryd.sizeOf43
  v37 := Tryd.zeroValue43
  t70 := Tryd.underlying78
  a70 := Tryd.isAgg78
  z70 := Tryd.sizeOf78
  v70 := Tryd.zeroValue78
  t72 := Tryd.underlying80
  a72 := Tryd.isAgg80
  z72 := Tryd.sizeOf80
  v72 := Tryd.zeroValue80
  t75 := Tryd.underlying83
  a75 := Tryd.isAgg83
  z75 := Tryd.sizeOf83
  v75 := Tryd.zeroValue83
  t76 := Tryd.underlying84
  a76 := Tryd.isAgg84
  z76 := Tryd.sizeOf84
  v76 := Tryd.zeroValue84
  t127 := Tryd.underlying99
  a127 := Tryd.isAgg99
  z127 := Tryd.sizeOf99
  v127 := Tryd.zeroValue99
  t164 := Tryd.underlying115
  a164 := Tryd.isAgg115
  z164 := Tryd.sizeOf115
  v164 := Tryd.zeroValue115 }
theorem Tryd.Builder_Extra_156 : Builder.Extra Tryd.prog Tryd.lays156_ren := {
  sizeBuilder := by kernel_rfl
  liesBuilder := by kernel_rfl
  t5 := Tryd.underlying5
  a5 := Tryd.isAgg5
  z5 := Tryd.sizeOf5
  v5 := Tryd.zeroValue5
  infoByte := by kernel_rfl
  cellsByte := by kernel_rfl
  sizeByte := by kernel_rfl
  neB5 := by decide }
open Go.RowKit in
/-- No element: the empty string; the world is as it was. (Whatever the slice's address and capacity: a nil slice too.) (LAID: no walk: one application.) -/
theorem Tryd.strings_Join_none (a : Option Addr) (c : Nat) (sep : ByteArray) (w : World) :
    Calls Tryd.prog 42 #[.slice a 0 c, .string sep] w fun e w' => e = .returned (.string ⟨#[]⟩) ∧ w' = w := Any.strings_Join_none Tryd.lays156 Tryd.Builder_Extra_156 a c sep w
open Go.RowKit in
/-- strings.Join: "Join concatenates the elements of its first argument to create a single string. The separator string sep is placed between elements in the resulting string.": HOWEVER MANY ELEMENTS. Below the heap's end the world is as it was. (LAID: no walk: one application.) -/
theorem Tryd.strings_Join (bk o c : Nat) (xs : List ByteArray) (sep : ByteArray) (w : World) (hcells : ∀ (j : Nat) x, xs[j]? = some x → w.cell? ⟨bk, o + j, none⟩ = some (.string x)) (hbk : bk < w.heap.size) (hN : xs.length ≤ 140737488355328) (hcap : xs.length ≤ c) (hlen : (Lib.join (xs.map (·.data.toList)) sep.data.toList).length ≤ 140737488355328) :
    Calls Tryd.prog 42 #[.slice (some ⟨bk, o, none⟩) xs.length c, .string sep] w fun e w' => e = .returned (.string ⟨(Lib.join (xs.map (·.data.toList)) sep.data.toList).toArray⟩) ∧ Below w.heap.size w w' := Any.strings_Join Tryd.lays156 Tryd.Builder_Extra_156 bk o c xs sep w hcells hbk hN hcap hlen
def Tryd.laysM219_ren : Go.Shelf.Ren := ⟨fun | 219 => 74 | 217 => 85 | 225 => 91 | 224 => 92 | 267 => 93 | 266 => 104 | 314 => 110 | n => n, fun | 9 => 9 | 3 => 3 | 4 => 4 | 5 => 5 | 46 => 89 | 146 => 119 | 51 => 118 | n => n, fun | 1 => 0 | n => n⟩
theorem Tryd.laysM219 : Go.Proofs.LaysM.n219 Tryd.prog Tryd.laysM219_ren := {
  mixed := by kernel_rfl
  f217 := Tryd.func85.trans (congrArg some (by kernel_rfl))
  f219 := Tryd.func74.trans (congrArg some (by kernel_rfl))
  f224 := Tryd.func92.trans (congrArg some (by kernel_rfl))
  f225 := Tryd.func91.trans (congrArg some (by kernel_rfl))
  f266 := Tryd.func104.trans (congrArg some (by kernel_rfl))
  f267 := Tryd.func93.trans (congrArg some (by kernel_rfl))
  f314 := Tryd.func110.trans (congrArg some (by kernel_rfl))
  t3 := Tryd.underlying3
  a3 := Tryd.isAgg3
  z3 := Tryd.sizeOf3
  v3 := Tryd.zeroValue3
  t4 := Tryd.underlying4
  a4 := Tryd.isAgg4
  z4 := Tryd.sizeOf4
  v4 := Tryd.zeroValue4
  t5 := Tryd.underlying5
  a5 := Tryd.isAgg5
  z5 := Tryd.sizeOf5
  v5 := Tryd.zeroValue5
  t9 := Tryd.underlying9
  a9 := Tryd.isAgg9
  z9 := Tryd.sizeOf9
  v9 := Tryd.zeroValue9
  t46 := Tryd.underlying89
  a46 := Tryd.isAgg89
  z46 := Tryd.sizeOf89
  v46 := Tryd.zeroValue89
  t51 := Tryd.underlying118
  a51 := Tryd.isAgg118
  z51 := Tryd.sizeOf118
  v51 := Tryd.zeroValue118
  t146 := Tryd.underlying119
  a146 := Tryd.isAgg119
  z146 := Tryd.sizeOf119
  v146 := Tryd.zeroValue119
  g1 := by kernel_rfl
  i3 := by kernel_rfl
  i4 := by kernel_rfl
  i5 := by kernel_rfl
  i9 := by kernel_rfl
  i46 := by kernel_rfl
  i51 := by kernel_rfl
  i146 := by kernel_rfl
  m1 := by kernel_rfl
  s1_3 := fun w h => Go.Proofs.cell_of_shapedOpen_int (zero := #[.int .i64 0]) (t := 3) h (of_decide_eq_true (by kernel_rfl)) (by kernel_rfl) rfl (by kernel_rfl) (by kernel_rfl) Tryd.underlying3 }
def Tryd.lays221_ren : Go.Shelf.Ren := ⟨fun | 221 => 68 | 268 => 87 | 138 => 88 | 143 => 49 | 195 => 105 | 197 => 106 | 218 => 107 | 219 => 74 | 260 => 115 | 217 => 85 | 225 => 91 | 224 => 92 | 267 => 93 | 266 => 104 | 314 => 110 | n => n, fun | 9 => 9 | 3 => 3 | 31 => 28 | 4 => 4 | 0 => 0 | 105 => 54 | 21 => 21 | 5 => 5 | 46 => 89 | 119 => 126 | 139 => 129 | 138 => 128 | 146 => 119 | 51 => 118 | n => n, fun | 1 => 0 | 3 => 1 | 4 => 2 | n => n⟩
theorem Tryd.lays221 : Go.Proofs.Lays.n221 Tryd.prog Tryd.lays221_ren := {
  mixed := by kernel_rfl
  f138 := Tryd.func88.trans (congrArg some (by kernel_rfl))
  f143 := Tryd.func49.trans (congrArg some (by kernel_rfl))
  f195 := Tryd.func105.trans (congrArg some (by kernel_rfl))
  f197 := Tryd.func106.trans (congrArg some (by kernel_rfl))
  f217 := Tryd.func85.trans (congrArg some (by kernel_rfl))
  f218 := Tryd.func107.trans (congrArg some (by kernel_rfl))
  f219 := Tryd.func74.trans (congrArg some (by kernel_rfl))
  f221 := Tryd.func68.trans (congrArg some (by kernel_rfl))
  f224 := Tryd.func92.trans (congrArg some (by kernel_rfl))
  f225 := Tryd.func91.trans (congrArg some (by kernel_rfl))
  f260 := Tryd.func115.trans (congrArg some (by kernel_rfl))
  f266 := Tryd.func104.trans (congrArg some (by kernel_rfl))
  f267 := Tryd.func93.trans (congrArg some (by kernel_rfl))
  f268 := Tryd.func87.trans (congrArg some (by kernel_rfl))
  f314 := Tryd.func110.trans (congrArg some (by kernel_rfl))
  t0 := Tryd.underlying0
  a0 := Tryd.isAgg0
  z0 := Tryd.sizeOf0
  v0 := Tryd.zeroValue0
  t3 := Tryd.underlying3
  a3 := Tryd.isAgg3
  z3 := Tryd.sizeOf3
  v3 := Tryd.zeroValue3
  t4 := Tryd.underlying4
  a4 := Tryd.isAgg4
  z4 := Tryd.sizeOf4
  v4 := Tryd.zeroValue4
  t5 := Tryd.underlying5
  a5 := Tryd.isAgg5
  z5 := Tryd.sizeOf5
  v5 := Tryd.zeroValue5
  t9 := Tryd.underlying9
  a9 := Tryd.isAgg9
  z9 := Tryd.sizeOf9
  v9 := Tryd.zeroValue9
  t21 := Tryd.underlying21
  a21 := Tryd.isAgg21
  z21 := Tryd.sizeOf21
  v21 := Tryd.zeroValue21
  t31 := Tryd.underlying28
  a31 := Tryd.isAgg28
  z31 := Tryd.sizeOf28
  v31 := Tryd.zeroValue28
  t46 := Tryd.underlying89
  a46 := Tryd.isAgg89
  z46 := Tryd.sizeOf89
  v46 := Tryd.zeroValue89
  t51 := Tryd.underlying118
  a51 := Tryd.isAgg118
  z51 := Tryd.sizeOf118
  v51 := Tryd.zeroValue118
  t105 := Tryd.underlying54
  a105 := Tryd.isAgg54
  z105 := Tryd.sizeOf54
  v105 := Tryd.zeroValue54
  t119 := Tryd.underlying126
  a119 := Tryd.isAgg126
  z119 := Tryd.sizeOf126
  t138 := Tryd.underlying128
  a138 := Tryd.isAgg128
  z138 := Tryd.sizeOf128
  v138 := Tryd.zeroValue128
  t139 := Tryd.underlying129
  a139 := Tryd.isAgg129
  z139 := Tryd.sizeOf129
  v139 := Tryd.zeroValue129
  t146 := Tryd.underlying119
  a146 := Tryd.isAgg119
  z146 := Tryd.sizeOf119
  v146 := Tryd.zeroValue119
  g1 := by kernel_rfl
  g3 := by kernel_rfl
  g4 := by kernel_rfl }
open Go.RowKit Go.Lib in
theorem Tryd.strings_genSplit (s sep : ByteArray) (sv : Nat) (n : Int) (N : Nat) (m : Int) (w : World) (hs : s.size < 4294967281) (hm : w.cell? ⟨0, 0, none⟩ = some (.int .i64 m)) (h1 : 1 ≤ sep.size) (hsv : sv ≤ sep.size) (hn0 : n ≠ 0) (hn63 : n ≤ 9223372036854775807) (hN : (N : Int) = min (if n < 0 then (Lib.countB s sep : Int) + 1 else n) ((s.size : Int) + 1)) :
    Calls Tryd.prog 68 #[.string s, .string sep, .int .i64 sv, .int .i64 n] w fun e w' =>
      e = .returned (.slice (some ⟨w.heap.size, 0, none⟩) (Lib.splitB sep sv (N - 1) s).length N) ∧ w' = w.alloc (.cells (Lib.cellsOf (Lib.splitB sep sv (N - 1) s) N) 9) := Any.strings_genSplit Tryd.lays221 (by kernel_rfl) s sep sv n N m w hs hm h1 hsv hn0 hn63 hN
end Go.Proofs
end

section
namespace Go.Proofs.YtebkhehjfkmdiaaDoor
open Go.RowKit

theorem PCall.ofCallsG {P : Program} {f : FuncId} {args : List V} {r : D} {R : Value} (hn : isFn P f = true) (hr : ∀ G w, DRel G w r R)
    (h : ∀ w us, (∃ C, GlobOk C w) → us.size = args.length → (∀ (j : Nat) x u, args[j]? = some x → us[j]? = some u → ∃ C, VRel C w x u) → Calls P f us w fun e w' => e = .returned R ∧ Below w.heap.size w w') : PCall P f args r :=
  ⟨hn, fun C w us hg hs hrel => (h w us ⟨C, hg⟩ hs fun j x u hx hu => ⟨_, hrel j x u hx hu⟩).mono fun _ _ ⟨he, hb⟩ => ⟨R, he, hr _ _, hb⟩⟩
theorem given_str {C : Nat → Nat → Prop} {w : World} {l : List UInt8} {u : Value} (h : VRel C w (sV l) u) : u = .string ⟨l.toArray⟩ := by cases h; rfl
theorem given_int {C : Nat → Nat → Prop} {w : World} {k : IntKind} {n : Int} {u : Value} (h : VRel C w (.v (.int k n)) u) : u = .int k n := by cases h; rfl
theorem below_same {w w' : World} (h : w' = w) : Below w.heap.size w w' := by subst h; exact Below.refl _ _
theorem need_some {p : Prop} [Decidable p] {R : Type} {f : Unit → Option R} {r : R} (h : (need p >>= f) = some r) : p ∧ f () = some r := by
  unfold need at h
  split at h
  · exact ⟨by assumption, h⟩
  · cases h
end Go.Proofs.YtebkhehjfkmdiaaDoor
end

section
namespace Go.Proofs.YtebkhehjfkmdiaaDoor
open Go.RowKit

theorem given_sl {C : Nat → Nat → Prop} {w : World} {l : List (List UInt8)} {u : Value} (h : VRel C w (.sl false (l.map cStr)) u) :
    (∃ a cap, u = .slice a l.length cap ∧ l.length ≤ cap) ∧ (l ≠ [] → ∃ b off cap, u = .slice (some ⟨b, off, none⟩) l.length cap ∧ l.length ≤ cap ∧ cap ≤ maxLen ∧ b < w.heap.size ∧ ∀ (i : Nat) x, l[i]? = some x → w.cell? ⟨b, off + i, none⟩ = some (.string ⟨x.toArray⟩)) := by
  generalize he : l.map cStr = es at h
  have hl : l.length = es.length := by rw [← he, List.length_map]
  cases h with
  | sl _ _ a cap size b off us h1 h2 h3 h4 h5 h6 h7 h8 =>
    refine ⟨⟨a, cap, by rw [hl], by omega⟩, fun hne => ?_⟩
    have hc : ∀ (i : Nat) x, l[i]? = some x → a = some ⟨b, off, none⟩ ∧ w.cell? ⟨b, off + i, none⟩ = some (.string ⟨x.toArray⟩) := fun i x hx => by
      have e1 : es[i]? = some [sV x] := by rw [← he, List.getElem?_map, hx]; rfl
      have e2 : size = 1 := by have := h4 [sV x] (List.mem_of_getElem? e1); simpa using this.symm
      obtain ⟨g1, g2, g3, g4⟩ := h6 i 0 _ _ e1 rfl
      have g5 := h7 i 0 _ _ e1 rfl
      subst e2
      have e3 := given_str g5
      rw [e3, Nat.mul_one, Nat.add_zero] at g3
      exact ⟨g1, g3⟩
    obtain ⟨x, hx⟩ : ∃ x, l[0]? = some x := by cases l with
      | nil => exact absurd rfl hne
      | cons x r => exact ⟨x, rfl⟩
    obtain ⟨g1, g2⟩ := hc 0 x hx
    exact ⟨b, off, cap, by rw [g1, hl], by omega, h2, cellLt g2, fun i x hx => (hc i x hx).2⟩
theorem join_ok (l : List (List UInt8)) (s : List UInt8) (hn : l.length ≤ 140737488355328) (hj : (Lib.join l s).length ≤ 140737488355328) : PCall Tryd.prog 42 [.sl false (l.map cStr), sV s] (.p (sV (Lib.join l s))) := by
  refine PCall.ofCallsG (by kernel_rfl) (fun _ _ => .p _ _ (.v _ rfl)) fun w us _ hs h => ?_
  obtain ⟨a, b, rfl⟩ := us2 hs
  obtain ⟨_, h0⟩ := h 0 _ a rfl rfl
  obtain ⟨_, h1⟩ := h 1 _ b rfl rfl
  rw [given_str h1]
  obtain ⟨g1, g2⟩ := given_sl h0
  cases l with
  | nil =>
    obtain ⟨ad, cap, rfl, -⟩ := g1
    exact (Tryd.strings_Join_none ad cap _ w).mono fun e w' ⟨he, hw⟩ => ⟨he, below_same hw⟩
  | cons x r =>
    obtain ⟨bk, off, cap, rfl, k1, k2, k3, k4⟩ := g2 (by simp)
    have e0 : ((x :: r).map fun x : List UInt8 => (⟨x.toArray⟩ : ByteArray)).map (·.data.toList) = x :: r := by
      rw [List.map_map]
      have e : (fun x : ByteArray => x.data.toList) ∘ (fun x : List UInt8 => (⟨x.toArray⟩ : ByteArray)) = id := by funext y; simp
      rw [e, List.map_id]
    have := Tryd.strings_Join bk off cap ((x :: r).map fun x => (⟨x.toArray⟩ : ByteArray)) ⟨s.toArray⟩ w (fun j y hy => by
      rw [List.getElem?_map] at hy
      obtain ⟨z, hz, rfl⟩ := Option.map_eq_some_iff.1 hy
      exact k4 j z hz) k3 (by rw [List.length_map]; exact hn) (by rw [List.length_map]; exact k1) (by rw [e0]; exact hj)
    rw [e0, List.length_map] at this
    exact this
theorem genSplit_ok (l s : List UInt8) (sv n : Int) (hl : l.length < 4294967281) (h1 : 1 ≤ s.length) (hsv0 : 0 ≤ sv) (hsv : sv ≤ s.length) (hn : n < 0) : PCall Tryd.prog 68 [sV l, sV s, iV sv, iV n] (.p (.sl false ((Lib.splitK s sv.toNat (Lib.count l s) l).map cStr))) := by
  refine ⟨by kernel_rfl, fun C w us hg hs hrel => ?_⟩
  obtain ⟨a, b, c, d, rfl⟩ : ∃ a b c d, us = #[a, b, c, d] := by
    match us, hs with
    | ⟨[a, b, c, d]⟩, _ => exact ⟨a, b, c, d, rfl⟩
  have h0 := hrel 0 _ a rfl rfl
  have h2 := hrel 1 _ b rfl rfl
  have h3 := hrel 2 _ c rfl rfl
  have h4 := hrel 3 _ d rfl rfl
  obtain ⟨m, -, hm⟩ := hg 0 (by simp [globsL])
  rw [given_str h0, given_str h2, given_int h3, given_int h4]
  have hle := Lib.countB_le ⟨s.toArray⟩ (by show 1 ≤ s.toArray.size; simpa using h1) l.length ⟨l.toArray⟩ (by show l.toArray.size ≤ _; simp)
  have hsz : (⟨l.toArray⟩ : ByteArray).size = l.length := by show l.toArray.size = _; simp
  have hc := Tryd.strings_genSplit ⟨l.toArray⟩ ⟨s.toArray⟩ sv.toNat n (Lib.countB ⟨l.toArray⟩ ⟨s.toArray⟩ + 1) m w (by show l.toArray.size < _; simpa using hl) hm (by show 1 ≤ s.toArray.size; simpa using h1) (by show _ ≤ s.toArray.size; simp only [List.size_toArray]; omega) (by omega) (by omega) (by rw [if_pos hn, hsz]; omega)
  rw [Int.toNat_of_nonneg hsv0] at hc
  refine hc.mono fun e w' ⟨he, hw⟩ => ?_
  subst hw
  have hlen := Lib.splitB_all ⟨s.toArray⟩ (by show 1 ≤ s.toArray.size; simpa using h1) sv.toNat _ ⟨l.toArray⟩ rfl
  have hd : (Lib.splitB ⟨s.toArray⟩ sv.toNat (Lib.countB ⟨l.toArray⟩ ⟨s.toArray⟩) ⟨l.toArray⟩).map (·.data.toList) = Lib.splitK s sv.toNat (Lib.count l s) l := by
    have hd := Lib.splitB_data ⟨s.toArray⟩ sv.toNat (Lib.countB ⟨l.toArray⟩ ⟨s.toArray⟩) ⟨l.toArray⟩
    exact hd
  rw [Nat.add_sub_cancel] at he ⊢
  generalize Lib.splitB ⟨s.toArray⟩ sv.toNat (Lib.countB ⟨l.toArray⟩ ⟨s.toArray⟩) ⟨l.toArray⟩ = xs at hlen hd he ⊢
  rw [← hlen] at he ⊢
  rw [← hd, Lib.cellsOf_full]
  refine ⟨_, he, .p _ _ ?_, (Below.refl _ w).alloc (Nat.le_refl _) _⟩
  have hr := row_rel (C := fun b o => C b o ∨ w.heap.size ≤ b) (w := w.alloc (.cells (xs.map Value.string).toArray 9)) w.heap.size (xs.map Value.string).toArray 9 (0, 0) (heap_alloc_new w _) (fun o => .inr (Nat.le_refl _)) false ((xs.map (·.data.toList)).map cStr) 1 xs.length
    (by simp) (by unfold maxLen; omega) (fun h => by cases h) (fun e he => by
      obtain ⟨y, -, rfl⟩ := List.mem_map.1 he
      rfl) (fun i k e' c he' hc' => ?_)
  · rw [List.length_map, List.length_map] at hr
    exact hr
  · rw [List.getElem?_map, List.getElem?_map] at he'
    cases hx : xs[i]? with
    | none => rw [hx] at he'; cases he'
    | some y =>
      rw [hx] at he'
      cases he'
      cases k with
      | succ k => simp [cStr] at hc'
      | zero =>
        have e0 : c = sV y.data.toList := by simpa [cStr] using hc'.symm
        subst e0
        refine ⟨.string y, ?_, rfl, .v _ rfl⟩
        rw [Nat.mul_one, Nat.add_zero, List.getElem?_toArray, List.getElem?_map, hx]; rfl
end Go.Proofs.YtebkhehjfkmdiaaDoor
end

section
namespace Go.Proofs.YtebkhehjfkmdiaaDoor
open Go.RowKit

def dv (c : UInt8) : Nat := c.toNat - 48
end Go.Proofs.YtebkhehjfkmdiaaDoor
end

section
set_option linter.unusedVariables false
set_option linter.unusedSimpArgs false
namespace Go.Proofs.YtebkhehjfkmdiaaDoor
open Go.RowKit

noncomputable def t_utf_Next (y : Int × Int) : D := .tup [.p (nV .i32 y.1), .p (iV y.2)]
noncomputable def utf_Next_lv : List (Nat × List Nat) := [(0, [0, 1]), (1, [0, 1, 17]), (2, [4, 5]), (3, [0, 1, 6]), (4, [4, 5]), (5, [0, 1, 6, 21]), (6, [4, 5]), (7, [0, 1, 6, 26]), (8, [0, 1, 4, 7, 8]), (9, [0, 1, 6, 36]), (10, [0, 1, 4, 7, 8]), (11, [0, 1, 6, 46]), (12, [0, 1, 4, 7, 8]), (13, [4, 7, 8, 9]), (14, [4, 8, 77]), (15, [4, 5]), (16, [4, 5]), (2004022, []), (3000001, []), (3000007, []), (3000009, []), (3000011, []), (3000014, [])]
noncomputable def utf_Next_J0_0 (p0 : (List UInt8)) (p1 : Int) (o1 : Bool) : St := ⟨[(0, .p (sV p0)), (1, .p (iV p1)), (17, .p (bV o1))], ⟨[], []⟩⟩
noncomputable def utf_Next_J1_0 (p0 : (List UInt8)) (p1 : Int) (y4 : Int × Int × Int) : St := ⟨[(0, .p (sV p0)), (1, .p (iV p1)), (4, .p (nV .i32 y4.1)), (7, .p (nV .i32 y4.2.1)), (8, .p (iV y4.2.2))], ⟨[], []⟩⟩
noncomputable def utf_Next_J1_1 (p0 : (List UInt8)) (p1 : Int) (y5 : Int) : St := ⟨[(4, .p (nV .i32 y5)), (5, .p (iV 1))], ⟨[], []⟩⟩
noncomputable def utf_Next_J2_0 (p0 : (List UInt8)) (p1 : Int) (x2 : UInt8) (o6 : Bool) : St := ⟨[(0, .p (sV p0)), (1, .p (iV p1)), (6, .p (nV .u8 (x2.toNat : Int))), (26, .p (bV o6))], ⟨[], []⟩⟩
noncomputable def utf_Next_J3_0 (p0 : (List UInt8)) (p1 : Int) (x2 : UInt8) (o7 : Bool) : St := ⟨[(0, .p (sV p0)), (1, .p (iV p1)), (6, .p (nV .u8 (x2.toNat : Int))), (36, .p (bV o7))], ⟨[], []⟩⟩
noncomputable def utf_Next_J4_0 (p0 : (List UInt8)) (p1 : Int) (x2 : UInt8) (o8 : Bool) : St := ⟨[(0, .p (sV p0)), (1, .p (iV p1)), (6, .p (nV .u8 (x2.toNat : Int))), (46, .p (bV o8))], ⟨[], []⟩⟩
noncomputable def utf_Next_J5_0 (y4 : Int × Int × Int) (x10 : Int × Bool) (o11 : Bool) : St := ⟨[(4, .p (nV .i32 x10.1)), (8, .p (iV y4.2.2)), (77, .p (bV o11))], ⟨[], []⟩⟩
noncomputable def t_utf_all (y : (List UInt8)) : D := .fn (.func 86) [] [.p (.ep [sV y])]
noncomputable def utf_all_lv : List (Nat × List Nat) := [(0, [1]), (1, [2])]
noncomputable def e_utf_all_1 (y : (Int × Int)) : List V := [nV .i32 y.1, iV y.2]
noncomputable def utf_all_1_lv : List (Nat × List Nat) := [(0, [0, 1, 3]), (1, [0, 1, 3, 9]), (2, [0, 1, 3, 4, 5]), (3, [0, 1, 3, 5, 20]), (4, [0, 1, 3]), (1000001, [0, 1, 3])]
noncomputable def utf_all_1_L1_st (p0 : (List UInt8)) (v3 : Int) (gxs gp : List (List V)) : St := ⟨[(0, .yld Tryd.prog 0 gxs), (1, .p (.ep [sV p0])), (3, .p (iV v3))], ⟨[], [gp.length]⟩⟩
noncomputable def utf_all_1_L1_x0 (p0 : (List UInt8)) (gxs : List (List V)) (gq1 : List (List V)) (oy : Unit) : St := ⟨[], ⟨[], [gq1.length]⟩⟩
noncomputable def utf_all_1_L1_c : Code := ((loopsOf (Tryd.f86.body.getD .skip)).getD 0 .skip)
noncomputable def t_utf_is (y : Bool) : D := .p (bV y)
noncomputable def utf_is_lv : List (Nat × List Nat) := [(0, [0]), (1, [2]), (3000001, [])]
noncomputable def utf_is_J0_0  (o1 : Bool) : St := ⟨[(2, .p (bV o1))], ⟨[], []⟩⟩
noncomputable def t_utf_tail (y : Int × Bool) : D := .tup [.p (nV .i32 y.1), .p (bV y.2)]
noncomputable def utf_tail_lv : List (Nat × List Nat) := [(0, [0, 1, 2]), (1, [0, 1, 2, 12]), (2, [6, 7]), (3, [0, 1, 13, 14]), (4, [0, 1, 13, 14, 15]), (5, [0, 1, 8, 13, 14]), (6, [0, 1, 8, 13, 14, 21]), (7, [6, 7]), (8, [0, 1, 13, 14]), (9, [0, 1, 13, 14]), (10, [6, 7]), (1000004, [0, 1, 13, 14])]
noncomputable def utf_tail_L1_st (p0 : (List UInt8)) (p2 : Int) (v1 : Int) (v14 : Int) : St := ⟨[(0, .p (sV p0)), (1, .p (nV .i32 v1)), (13, .p (iV p2)), (14, .p (iV v14))], ⟨[], []⟩⟩
noncomputable def utf_tail_L1_x0 (p0 : (List UInt8)) (p2 : Int) (y2 : Int) : St := ⟨[(1, .p (nV .i32 y2))], ⟨[], []⟩⟩
noncomputable def utf_tail_L1_x1 (p0 : (List UInt8)) (p2 : Int) (y3 : Unit) : St := ⟨[(6, .p (nV .i32 0)), (7, .p (bV false))], ⟨[], []⟩⟩
noncomputable def utf_tail_L1_c : Code := ((loopsOf (Tryd.f72.body.getD .skip)).getD 0 .skip)
noncomputable def utf_all (p0 : (List UInt8)) : Option ((List UInt8)) :=
  some p0
set_option maxRecDepth 100000 in
set_option maxHeartbeats 4000000 in
theorem utf_all_ok : ∀ (p0 : (List UInt8)) (o : (List UInt8)), utf_all p0 = some o → PCall Tryd.prog 65 [sV p0] (t_utf_all o) := by
  intro p0 o h
  unfold utf_all at h
  refine PCall.ofM mixed tbOk utf_all_lv Tryd.func65 rfl (by kernel_rfl) (Nat.le_of_ble_eq_true rfl) ?_
  refine st_ret (t := t_utf_all) h ?_
  exact .refl _
noncomputable def utf_is (p0 : Int) : Option (Bool) :=
  ( if (decide (p0 ≥ 0)) then
      if (decide (p0 ≤ 1114111)) then
        if (decide (p0 < 55296)) then
          some true
        else
          some (decide (p0 > 57343))
      else
        some false
    else
      some false : Option (Bool)) >>= fun o1 =>
  some o1
set_option maxRecDepth 100000 in
set_option maxHeartbeats 4000000 in
theorem utf_is_ok : ∀ (p0 : Int) (o : Bool), utf_is p0 = some o → PCall Tryd.prog 73 [nV .i32 p0] (t_utf_is o) := by
  intro p0 o h
  unfold utf_is at h
  refine PCall.ofB mixed tbOk utf_is_lv Tryd.func73 rfl (by kernel_rfl) (Nat.le_of_ble_eq_true rfl) ?_
  refine st_bind h (fun o1 ho hk => ?_)
  refine Exists.intro (JP1 _ _ o1 .normal (utf_is_J0_0 )) (And.intro ?_ (join1 ?_))
  · have h := ho
    refine st_test h (fun hb h => ?_) (fun hb h => ?_)
    · refine st_test h (fun hb h => ?_) (fun hb h => ?_)
      · refine st_test h (fun hb h => ?_) (fun hb h => ?_)
        · refine JP1.a h ?_
          exact Le.tow 0 0 rfl (.cons rfl (.refl _) (.nil)) (.refl _) rfl
        · refine JP1.a h ?_
          exact Le.tow 0 0 rfl (.cons rfl (.refl _) (.nil)) (.refl _) rfl
      · refine JP1.a h ?_
        exact Le.tow 0 0 rfl (.cons rfl (.refl _) (.nil)) (.refl _) rfl
    · refine bF ?_
      refine JP1.a h ?_
      exact Le.tow 0 0 rfl (.cons rfl (.refl _) (.nil)) (.refl _) rfl
  · have h := hk
    refine st_ret (t := t_utf_is) h ?_
    exact .refl _
noncomputable def utf_tail_L1 (p0 : (List UInt8)) (p2 : Int) (v1 : Int) (v14 : Int) : Option (Int ⊕ Unit) :=
  if (decide (v14 < p2)) then
    idx p0 v14 >>= fun x4 =>
    if ((bits .and .u8 (x4.toNat : Int) 192) != 128) then
      some (.inr ())
    else
      idx p0 v14 >>= fun x5 =>
      utf_tail_L1 p0 p2 (bits .or .i32 (IntKind.i32.wrap (v1 * 2 ^ (min (6 : Int).toNat (IntKind.i32.bits)))) (IntKind.i32.wrap (bits .and .u8 (x5.toNat : Int) 63))) (wr (v14 + 1))
  else
    some (.inl v1)
  partial_fixpoint
set_option maxRecDepth 100000 in
set_option maxHeartbeats 4000000 in
theorem utf_tail_L1_grp : ∀ (p0 : (List UInt8)) (p2 : Int), (∀ (v1 : Int) (v14 : Int) (o1 : Int ⊕ Unit), utf_tail_L1 p0 p2 v1 v14 = some o1 → TL (0, 0) Tryd.prog 32 utf_tail_L1_c (JP2 (0, 0) 32 o1 (.exit 0) (utf_tail_L1_x0 p0 p2) .ret (utf_tail_L1_x1 p0 p2)) (utf_tail_L1_st p0 p2 v1 v14)) := by
  intro p0 p2
  refine utf_tail_L1.partial_correctness p0 p2 _ ?_
  intro utf_tail_L1' ih_utf_tail_L1 v1 v14 o1 h
  refine TL.round (bwp_sound mixed tbOk (lv := utf_tail_lv) _ _ _ ?_)
  refine st_test h (fun hb h => ?_) (fun hb h => ?_)
  · refine st_sidx h (fun x4 hi h => ?_)
    refine st_test h (fun hb h => ?_) (fun hb h => ?_)
    · exact JP2.b h (Le.tow 0 0 rfl (.cons rfl (.refl _) (.cons rfl (.refl _) (.nil))) (.refl _) rfl)
    · refine And.intro (by decide) ?_
      refine st_sidx h (fun x5 hi h => ?_)
      refine vrfl ?_
      refine TL.le (τ := utf_tail_L1_st p0 p2 (bits .or .i32 (IntKind.i32.wrap (v1 * 2 ^ (min (6 : Int).toNat (IntKind.i32.bits)))) (IntKind.i32.wrap (bits .and .u8 (x5.toNat : Int) 63))) (wr (v14 + 1))) ?_ ((ih_utf_tail_L1 (bits .or .i32 (IntKind.i32.wrap (v1 * 2 ^ (min (6 : Int).toNat (IntKind.i32.bits)))) (IntKind.i32.wrap (bits .and .u8 (x5.toNat : Int) 63))) (wr (v14 + 1)) _ h))
      exact Le.tow 0 0 rfl (.cons rfl (.refl _) (.cons rfl (.refl _) (.cons rfl (.refl _) (.cons rfl (.refl _) (.nil))))) (.refl _) rfl
  · exact JP2.a h (Le.tow 0 0 rfl (.cons rfl (.refl _) (.nil)) (.refl _) rfl)
theorem utf_tail_L1_ok : ∀ (p0 : (List UInt8)) (p2 : Int) (v1 : Int) (v14 : Int) (o1 : Int ⊕ Unit), utf_tail_L1 p0 p2 v1 v14 = some o1 → TL (0, 0) Tryd.prog 32 utf_tail_L1_c (JP2 (0, 0) 32 o1 (.exit 0) (utf_tail_L1_x0 p0 p2) .ret (utf_tail_L1_x1 p0 p2)) (utf_tail_L1_st p0 p2 v1 v14) := fun p0 p2 v1 v14 o1 h => (utf_tail_L1_grp p0 p2) v1 v14 o1 h
noncomputable def utf_tail (p0 : (List UInt8)) (p1 : Int) (p2 : Int) : Option (Int × Bool) :=
  if (decide ((p0.length : Int) < p2)) then
    some (0, false)
  else
    (utf_tail_L1 p0 p2 p1 0) >>= fun o1 =>
    match o1 with
    | .inl y2 =>
      some (y2, true)
    | .inr y3 =>
      some (0, false)
set_option maxRecDepth 100000 in
set_option maxHeartbeats 4000000 in
theorem utf_tail_ok : ∀ (p0 : (List UInt8)) (p1 : Int) (p2 : Int) (o : Int × Bool), utf_tail p0 p1 p2 = some o → PCall Tryd.prog 72 [sV p0, nV .i32 p1, iV p2] (t_utf_tail o) := by
  intro p0 p1 p2 o h
  unfold utf_tail at h
  refine PCall.ofB mixed tbOk utf_tail_lv Tryd.func72 rfl (by kernel_rfl) (Nat.le_of_ble_eq_true rfl) ?_
  refine vrfl ?_
  refine st_test h (fun hb h => ?_) (fun hb h => ?_)
  · refine st_ret (t := t_utf_tail) h ?_
    exact .refl _
  · refine st_bind h (fun o1 ho hk => ?_)
    refine Exists.intro (JP2 _ _ o1 (.exit 0) (utf_tail_L1_x0 p0 p2) .ret (utf_tail_L1_x1 p0 p2)) (And.intro (T_le (τ := utf_tail_L1_st p0 p2 p1 0) ?_ (TL.loop (utf_tail_L1_ok p0 p2 p1 0 o1 ho))) (join2 (fun y2 hy => ?_) (fun y3 hy => ?_)))
    · exact Le.tow 0 0 rfl (.cons rfl (.refl _) (.cons rfl (.refl _) (.cons rfl (.refl _) (.cons rfl (.refl _) (.nil))))) (.refl _) rfl
    · have h := (by rw [hy] at hk; exact hk)
      refine st_ret (t := t_utf_tail) h ?_
      exact .refl _
    · have h := (by rw [hy] at hk; exact hk)
      refine st_ret (t := t_utf_tail) h ?_
      exact .refl _
noncomputable def utf_Next (p0 : (List UInt8)) (p1 : Int) : Option (Int × Int) :=
  ( if (decide (p1 < 0)) then
      some true
    else
      some (decide (p1 ≥ (p0.length : Int))) : Option (Bool)) >>= fun o1 =>
  if o1 then
    some (0, 0)
  else
    idx p0 p1 >>= fun x2 =>
    ( if (decide ((x2.toNat : Int) < 128)) then
        some (.inr (IntKind.i32.wrap (x2.toNat : Int)))
      else
        ( if (decide ((x2.toNat : Int) ≥ 192)) then
            some (decide ((x2.toNat : Int) < 224))
          else
            some false : Option (Bool)) >>= fun o6 =>
        if o6 then
          some (.inl ((IntKind.i32.wrap (bits .and .u8 (x2.toNat : Int) 31)), 128, 1))
        else
          ( if (decide ((x2.toNat : Int) ≥ 224)) then
              some (decide ((x2.toNat : Int) < 240))
            else
              some false : Option (Bool)) >>= fun o7 =>
          if o7 then
            some (.inl ((IntKind.i32.wrap (bits .and .u8 (x2.toNat : Int) 15)), 2048, 2))
          else
            ( if (decide ((x2.toNat : Int) ≥ 240)) then
                some (decide ((x2.toNat : Int) < 248))
              else
                some false : Option (Bool)) >>= fun o8 =>
            if o8 then
              some (.inl ((IntKind.i32.wrap (bits .and .u8 (x2.toNat : Int) 7)), 65536, 3))
            else
              some (.inr 65533) : Option ((Int × Int × Int) ⊕ Int)) >>= fun o3 =>
    match o3 with
    | .inl y4 =>
      cutL p0 (wr (p1 + 1)) (p0.length : Int) >>= fun x9 =>
      utf_tail x9 y4.1 y4.2.2 >>= fun x10 =>
      ( if (!x10.2) then
          some true
        else
          if (decide (x10.1 < y4.2.1)) then
            some true
          else
            utf_is x10.1 >>= fun x12 =>
            some (!x12) : Option (Bool)) >>= fun o11 =>
      if o11 then
        some (65533, 1)
      else
        some (x10.1, (wr (y4.2.2 + 1)))
    | .inr y5 =>
      some (y5, 1)
set_option maxRecDepth 100000 in
set_option maxHeartbeats 4000000 in
theorem utf_Next_ok : ∀ (p0 : (List UInt8)) (p1 : Int) (o : Int × Int), utf_Next p0 p1 = some o → PCall Tryd.prog 43 [sV p0, iV p1] (t_utf_Next o) := by
  intro p0 p1 o h
  unfold utf_Next at h
  refine PCall.ofB mixed tbOk utf_Next_lv Tryd.func43 rfl (by kernel_rfl) (Nat.le_of_ble_eq_true rfl) ?_
  refine st_bind h (fun o1 ho hk => ?_)
  refine Exists.intro (JP1 _ _ o1 .normal (utf_Next_J0_0 p0 p1)) (And.intro ?_ (join1 ?_))
  · have h := ho
    refine st_test h (fun hb h => ?_) (fun hb h => ?_)
    · refine JP1.a h ?_
      exact Le.tow 0 0 rfl (.cons rfl (.refl _) (.cons rfl (.refl _) (.cons rfl (.refl _) (.nil)))) (.refl _) rfl
    · refine vrfl ?_
      refine JP1.a h ?_
      exact Le.tow 0 0 rfl (.cons rfl (.refl _) (.cons rfl (.refl _) (.cons rfl (.refl _) (.nil)))) (.refl _) rfl
  · have h := hk
    refine st_test h (fun hb h => ?_) (fun hb h => ?_)
    · refine st_ret (t := t_utf_Next) h ?_
      exact .refl _
    · refine st_sidx h (fun x2 hi h => ?_)
      refine st_bind h (fun o3 ho hk => ?_)
      refine Exists.intro (JP2 _ _ o3 .normal (utf_Next_J1_0 p0 p1) .ret (utf_Next_J1_1 p0 p1)) (And.intro ?_ (join2 (fun y4 hy => ?_) (fun y5 hy => ?_)))
      · have h := ho
        refine st_test h (fun hb h => ?_) (fun hb h => ?_)
        · refine vrfl ?_
          refine JP2.b h ?_
          exact Le.tow 0 0 rfl (.cons rfl (.refl _) (.cons rfl (.refl _) (.nil))) (.refl _) rfl
        · refine st_bind h (fun o6 ho hk => ?_)
          refine Exists.intro (JP1 _ _ o6 .normal (utf_Next_J2_0 p0 p1 x2)) (And.intro ?_ (join1 ?_))
          · have h := ho
            refine st_test h (fun hb h => ?_) (fun hb h => ?_)
            · refine JP1.a h ?_
              exact Le.tow 0 0 rfl (.cons rfl (.refl _) (.cons rfl (.refl _) (.cons rfl (.refl _) (.cons rfl (.refl _) (.nil))))) (.refl _) rfl
            · refine JP1.a h ?_
              exact Le.tow 0 0 rfl (.cons rfl (.refl _) (.cons rfl (.refl _) (.cons rfl (.refl _) (.cons rfl (.refl _) (.nil))))) (.refl _) rfl
          · have h := hk
            refine st_test h (fun hb h => ?_) (fun hb h => ?_)
            · refine vrfl ?_
              refine JP2.a h ?_
              exact Le.tow 0 0 rfl (.cons rfl (.refl _) (.cons rfl (.refl _) (.cons rfl (.refl _) (.cons rfl (.refl _) (.cons rfl (.refl _) (.nil)))))) (.refl _) rfl
            · refine st_bind h (fun o7 ho hk => ?_)
              refine Exists.intro (JP1 _ _ o7 .normal (utf_Next_J3_0 p0 p1 x2)) (And.intro ?_ (join1 ?_))
              · have h := ho
                refine st_test h (fun hb h => ?_) (fun hb h => ?_)
                · refine JP1.a h ?_
                  exact Le.tow 0 0 rfl (.cons rfl (.refl _) (.cons rfl (.refl _) (.cons rfl (.refl _) (.cons rfl (.refl _) (.nil))))) (.refl _) rfl
                · refine JP1.a h ?_
                  exact Le.tow 0 0 rfl (.cons rfl (.refl _) (.cons rfl (.refl _) (.cons rfl (.refl _) (.cons rfl (.refl _) (.nil))))) (.refl _) rfl
              · have h := hk
                refine st_test h (fun hb h => ?_) (fun hb h => ?_)
                · refine vrfl ?_
                  refine JP2.a h ?_
                  exact Le.tow 0 0 rfl (.cons rfl (.refl _) (.cons rfl (.refl _) (.cons rfl (.refl _) (.cons rfl (.refl _) (.cons rfl (.refl _) (.nil)))))) (.refl _) rfl
                · refine st_bind h (fun o8 ho hk => ?_)
                  refine Exists.intro (JP1 _ _ o8 .normal (utf_Next_J4_0 p0 p1 x2)) (And.intro ?_ (join1 ?_))
                  · have h := ho
                    refine st_test h (fun hb h => ?_) (fun hb h => ?_)
                    · refine JP1.a h ?_
                      exact Le.tow 0 0 rfl (.cons rfl (.refl _) (.cons rfl (.refl _) (.cons rfl (.refl _) (.cons rfl (.refl _) (.nil))))) (.refl _) rfl
                    · refine JP1.a h ?_
                      exact Le.tow 0 0 rfl (.cons rfl (.refl _) (.cons rfl (.refl _) (.cons rfl (.refl _) (.cons rfl (.refl _) (.nil))))) (.refl _) rfl
                  · have h := hk
                    refine st_test h (fun hb h => ?_) (fun hb h => ?_)
                    · refine vrfl ?_
                      refine JP2.a h ?_
                      exact Le.tow 0 0 rfl (.cons rfl (.refl _) (.cons rfl (.refl _) (.cons rfl (.refl _) (.cons rfl (.refl _) (.cons rfl (.refl _) (.nil)))))) (.refl _) rfl
                    · refine JP2.b h ?_
                      exact Le.tow 0 0 rfl (.cons rfl (.refl _) (.cons rfl (.refl _) (.nil))) (.refl _) rfl
      · have h := (by rw [hy] at hk; exact hk)
        refine st_cuts (some (wr (p1 + 1))) none h (fun x9 hi h => ?_)
        refine st_call [sV x9, nV .i32 y4.1, iV y4.2.2] t_utf_tail h (fun x10 hy => (utf_tail_ok x9 y4.1 y4.2.2 x10 hy)) (fun x10 hy h => ?_)
        refine st_bind h (fun o11 ho hk => ?_)
        refine Exists.intro (JP1 _ _ o11 .normal (utf_Next_J5_0 y4 x10)) (And.intro ?_ (join1 ?_))
        · have h := ho
          refine st_test h (fun hb h => ?_) (fun hb h => ?_)
          · refine bT ?_
            refine JP1.a h ?_
            exact Le.tow 0 0 rfl (.cons rfl (.refl _) (.cons rfl (.refl _) (.cons rfl (.refl _) (.nil)))) (.refl _) rfl
          · refine st_test h (fun hb h => ?_) (fun hb h => ?_)
            · refine JP1.a h ?_
              exact Le.tow 0 0 rfl (.cons rfl (.refl _) (.cons rfl (.refl _) (.cons rfl (.refl _) (.nil)))) (.refl _) rfl
            · refine st_call [nV .i32 x10.1] t_utf_is h (fun x12 hy => (utf_is_ok x10.1 x12 hy)) (fun x12 hy h => ?_)
              refine JP1.a h ?_
              exact Le.tow 0 0 rfl (.cons rfl (.refl _) (.cons rfl (.refl _) (.cons rfl (.refl _) (.nil)))) (.refl _) rfl
        · have h := hk
          refine st_test h (fun hb h => ?_) (fun hb h => ?_)
          · refine st_ret (t := t_utf_Next) h ?_
            exact .refl _
          · refine st_ret (t := t_utf_Next) h ?_
            exact .refl _
      · have h := (by rw [hy] at hk; exact hk)
        refine st_ret (t := t_utf_Next) h ?_
        exact .refl _
noncomputable def utf_all_1_L1 (p0 : (List UInt8)) (v3 : Int) : Option ((List (Int × Int)) × (Unit)) :=
  if (decide (v3 < (p0.length : Int))) then
    utf_Next p0 v3 >>= fun x3 =>
    ( utf_all_1_L1 p0 (wr (v3 + x3.2))) >>= fun q => some ((x3.1, x3.2) :: q.1, q.2)
  else
    some ([], ())
  partial_fixpoint
set_option maxRecDepth 100000 in
set_option maxHeartbeats 4000000 in
theorem utf_all_1_L1_grp : ∀ (p0 : (List UInt8)), (∀ (v3 : Int) (o2 : (List (Int × Int)) × (Unit)), utf_all_1_L1 p0 v3 = some o2 → ∀ (gxs gp gpost gq1 : List (List V)), gxs = gp ++ (o2.1.map e_utf_all_1 ++ gpost) → gxs = gq1 ++ gpost → TL (0, 1) Tryd.prog 24 utf_all_1_L1_c (Qs (0, 1) 24 gxs (JP1 (0, 1) 24 o2.2 (.exit 0) (utf_all_1_L1_x0 p0 gxs gq1))) (utf_all_1_L1_st p0 v3 gxs gp)) := by
  intro p0
  refine utf_all_1_L1.partial_correctness p0 _ ?_
  intro utf_all_1_L1' ih_utf_all_1_L1 v3 o2 h
  intro gxs gp gpost gq1 hx hq
  refine TL.round (bwp_sound mixed tbOk (lv := utf_all_1_lv) _ _ _ ?_)
  refine vrfl ?_
  refine st_test h (fun hb h => ?_) (fun hb h => ?_)
  · refine st_call [sV p0, iV v3] t_utf_Next h (fun x3 hy => (utf_Next_ok p0 v3 x3 hy)) (fun x3 hy h => ?_)
    refine st_yld (c := e_utf_all_1) h hx (.refl _) (by exact rfl) (by exact rfl) (fun _ h hx => ?_) ?_
    · refine bF ?_
      refine TL.le (τ := utf_all_1_L1_st p0 (wr (v3 + x3.2)) gxs (gp ++ [e_utf_all_1 (x3.1, x3.2)])) ?_ ((ih_utf_all_1_L1 (wr (v3 + x3.2)) _ h) _ _ _ _ hx hq)
      exact Le.tow 0 1 rfl (.cons rfl (.refl _) (.cons rfl (.refl _) (.cons rfl (.refl _) (.nil)))) (.refl _) rfl
    · refine bT ?_
      exact .inr ⟨rfl, _, (Le.env0 _).trans (Le.tow 0 1 rfl .nil (.refl _) rfl), rfl, rfl, rfl⟩
  · exact .inl (JP1.a (sndI h) (Le.tow 0 1 rfl (.nil) (.refl _) (liveQ h hx hq rfl)))
theorem utf_all_1_L1_ok : ∀ (p0 : (List UInt8)) (v3 : Int) (o2 : (List (Int × Int)) × (Unit)), utf_all_1_L1 p0 v3 = some o2 → ∀ (gxs gp gpost gq1 : List (List V)), gxs = gp ++ (o2.1.map e_utf_all_1 ++ gpost) → gxs = gq1 ++ gpost → TL (0, 1) Tryd.prog 24 utf_all_1_L1_c (Qs (0, 1) 24 gxs (JP1 (0, 1) 24 o2.2 (.exit 0) (utf_all_1_L1_x0 p0 gxs gq1))) (utf_all_1_L1_st p0 v3 gxs gp) := fun p0 v3 o2 h => (utf_all_1_L1_grp p0) v3 o2 h
noncomputable def utf_all_1 (p0 : (List UInt8)) : Option ((List (Int × Int)) × Unit) :=
  ( utf_all_1_L1 p0 0) >>= fun o2 => (
    some ([], ())) >>= fun q => some (o2.1 ++ q.1, q.2)
set_option maxRecDepth 100000 in
set_option maxHeartbeats 4000000 in
theorem utf_all_1_ok : ∀ (p0 : (List UInt8)) (o : (List (Int × Int)) × Unit), utf_all_1 p0 = some o → ∀ gxs : List (List V), gxs = o.1.map e_utf_all_1 → IterOK Tryd.prog 86 [.ep [sV p0]] gxs := by
  intro p0 o h
  unfold utf_all_1 at h
  intro gxs hg
  have hx : gxs = [] ++ (o.1.map e_utf_all_1 ++ []) := by simp [hg]
  refine IterOK.ofB mixed tbOk utf_all_1_lv Tryd.func86 rfl (by kernel_rfl) (Nat.le_of_ble_eq_true rfl) rfl ?_
  refine st_bindI h hx (fun o2 lgq1 gq1 ho hk hxa hjgq1 => ?_)
  refine Exists.intro (Qs _ _ gxs (JP1 _ _ o2.2 (.exit 0) (utf_all_1_L1_x0 p0 gxs gq1))) (And.intro (T_le (τ := utf_all_1_L1_st p0 0 gxs ([] : List (List V))) ?_ (TL.loop ((utf_all_1_L1_ok p0 0 o2 ho) _ _ _ _ hxa hjgq1))) (joinS (join1 ?_) ?_))
  · exact Le.tow 0 1 rfl (.cons rfl (.refl _) (.cons rfl (.refl _) (.cons rfl (.refl _) (.nil)))) (.refl _) rfl
  · have h := hk
    have hx := hjgq1
    exact st_iend h hx (.inl rfl) rfl
  · exact fun s1 h1 h2 hs => st_istop (.inr rfl) hs
end Go.Proofs.YtebkhehjfkmdiaaDoor
end

section
namespace Go.Proofs.YtebkhehjfkmdiaaDoor
open Go.RowKit

def contB (c : UInt8) : Bool := decide (128 ≤ c.toNat) && decide (c.toNat < 192)
def runeB (n : Nat) : Bool := decide (n ≤ 1114111) && !(decide (55296 ≤ n) && decide (n ≤ 57343))
/-- The rune at the head, and how many bytes it has. -/
def nextC (c : UInt8) (r : List UInt8) : Nat × Nat :=
    if c.toNat < 128 then (c.toNat, 1)
    else if 192 ≤ c.toNat ∧ c.toNat < 224 then
      match r with
      | c1 :: _ => if contB c1 = true ∧ 128 ≤ (c.toNat - 192) * 64 + (c1.toNat - 128) then ((c.toNat - 192) * 64 + (c1.toNat - 128), 2) else (65533, 1)
      | _ => (65533, 1)
    else if 224 ≤ c.toNat ∧ c.toNat < 240 then
      match r with
      | c1 :: c2 :: _ => if contB c1 = true ∧ contB c2 = true ∧ 2048 ≤ ((c.toNat - 224) * 64 + (c1.toNat - 128)) * 64 + (c2.toNat - 128) ∧ runeB (((c.toNat - 224) * 64 + (c1.toNat - 128)) * 64 + (c2.toNat - 128)) = true then (((c.toNat - 224) * 64 + (c1.toNat - 128)) * 64 + (c2.toNat - 128), 3) else (65533, 1)
      | _ => (65533, 1)
    else if 240 ≤ c.toNat ∧ c.toNat < 248 then
      match r with
      | c1 :: c2 :: c3 :: _ => if contB c1 = true ∧ contB c2 = true ∧ contB c3 = true ∧ 65536 ≤ (((c.toNat - 240) * 64 + (c1.toNat - 128)) * 64 + (c2.toNat - 128)) * 64 + (c3.toNat - 128) ∧ runeB ((((c.toNat - 240) * 64 + (c1.toNat - 128)) * 64 + (c2.toNat - 128)) * 64 + (c3.toNat - 128)) = true then ((((c.toNat - 240) * 64 + (c1.toNat - 128)) * 64 + (c2.toNat - 128)) * 64 + (c3.toNat - 128), 4) else (65533, 1)
      | _ => (65533, 1)
    else (65533, 1)
def nextP : List UInt8 → Nat × Nat
  | [] => (0, 0)
  | c :: r => nextC c r
theorem i32_in {n : Int} (h1 : -2147483648 ≤ n) (h2 : n ≤ 2147483647) : IntKind.i32.wrap n = n := by
  simp [IntKind.wrap, IntKind.bits, IntKind.signed]
  omega
theorem and63 : ∀ c : Fin 256, bits .and .u8 ((c.1 : Nat) : Int) 63 = ((c.1 % 64 : Nat) : Int) := by decide +kernel
theorem and192 : ∀ c : Fin 256, (bits .and .u8 ((c.1 : Nat) : Int) 192 != 128) = !(decide (128 ≤ c.1) && decide (c.1 < 192)) := by decide +kernel
theorem and31 : ∀ c : Fin 256, bits .and .u8 ((c.1 : Nat) : Int) 31 = ((c.1 % 32 : Nat) : Int) := by decide +kernel
theorem and15 : ∀ c : Fin 256, bits .and .u8 ((c.1 : Nat) : Int) 15 = ((c.1 % 16 : Nat) : Int) := by decide +kernel
theorem and7 : ∀ c : Fin 256, bits .and .u8 ((c.1 : Nat) : Int) 7 = ((c.1 % 8 : Nat) : Int) := by decide +kernel
theorem or64 (a b : Nat) (ha : a < 1000000) (hb : b < 64) : bits .or .i32 (IntKind.i32.wrap ((a : Int) * 2 ^ (min (6 : Int).toNat (IntKind.i32.bits)))) (IntKind.i32.wrap (b : Int)) = ((a * 64 + b : Nat) : Int) := by
  have e1 : IntKind.i32.wrap ((a : Int) * 2 ^ (min (6 : Int).toNat (IntKind.i32.bits))) = ((a * 64 : Nat) : Int) := by
    have : (min (6 : Int).toNat (IntKind.i32.bits)) = 6 := rfl
    rw [this, i32_in (by omega) (by omega)]; omega
  rw [e1, i32_in (by omega) (by omega)]
  have e2 : (2 : Nat) ^ 6 * a + b = 2 ^ 6 * a ||| b := Nat.two_pow_add_eq_or_of_lt (by omega) a
  have e3 : a * 64 ||| b = a * 64 + b := by
    have : (2 : Nat) ^ 6 * a = a * 64 := by omega
    rw [this] at e2; omega
  show IntKind.i32.wrap ((BitVec.ofInt 32 ((a * 64 : Nat) : Int) ||| BitVec.ofInt 32 (b : Int)).toNat : Int) = _
  rw [BitVec.toNat_or, BitVec.ofInt_natCast, BitVec.ofInt_natCast, BitVec.toNat_ofNat, BitVec.toNat_ofNat, Nat.mod_eq_of_lt (by omega), Nat.mod_eq_of_lt (by omega), e3, i32_in (by omega) (by omega)]
theorem b63 (c : UInt8) : bits .and .u8 (c.toNat : Int) 63 = ((c.toNat % 64 : Nat) : Int) := and63 ⟨c.toNat, c.toNat_lt⟩
theorem b192 (c : UInt8) : (bits .and .u8 (c.toNat : Int) 192 != 128) = !contB c := and192 ⟨c.toNat, c.toNat_lt⟩
theorem b31 (c : UInt8) : bits .and .u8 (c.toNat : Int) 31 = ((c.toNat % 32 : Nat) : Int) := and31 ⟨c.toNat, c.toNat_lt⟩
theorem b15 (c : UInt8) : bits .and .u8 (c.toNat : Int) 15 = ((c.toNat % 16 : Nat) : Int) := and15 ⟨c.toNat, c.toNat_lt⟩
theorem b7 (c : UInt8) : bits .and .u8 (c.toNat : Int) 7 = ((c.toNat % 8 : Nat) : Int) := and7 ⟨c.toNat, c.toNat_lt⟩
theorem cont_mod {c : UInt8} (h : contB c = true) : c.toNat % 64 = c.toNat - 128 := by
  unfold contB at h
  simp at h
  omega
/-- What follows: so many bytes. -/
def tailP : Nat → List UInt8 → Nat → Option Nat
  | 0, _, v => some v
  | _ + 1, [], _ => none
  | m + 1, c :: r, v => if contB c = true then tailP m r (v * 64 + (c.toNat - 128)) else none
set_option maxRecDepth 20000 in
theorem tTailL (l : List UInt8) (m : Nat) (hm : m ≤ l.length) (hm3 : m ≤ 3) : ∀ (d k v : Nat), k + d = m → ((k = 0 → v < 64) ∧ (k ≤ 1 → v < 4096) ∧ (k ≤ 2 → v < 262144)) →
    utf_tail_L1 l m v k = some (match tailP d (l.drop k) v with | some n => .inl (n : Int) | none => .inr ()) := by
  intro d
  induction d with
  | zero =>
    intro k v hk _
    rw [utf_tail_L1, ltI, decide_eq_false (by omega : ¬ k < m)]
    rfl
  | succ d ih =>
    intro k v hk hv
    have hkl : k < l.length := by omega
    have : decide ((k : Int) < (m : Int)) = true := decide_eq_true (by omega)
    rw [utf_tail_L1]
    simp only [this, if_true, idx_nat, getE hkl, bind_some', b192, b63]
    rw [or64 v _ (by omega) (Nat.mod_lt _ (by omega)), wr_succ (by omega), dropE hkl]
    unfold tailP
    cases hc : contB l[k] with
    | false => rfl
    | true =>
      rw [cont_mod hc]
      have hlt : l[k].toNat - 128 < 64 := by unfold contB at hc; simp at hc; omega
      have hv2 : (k + 1 = 0 → v * 64 + (l[k].toNat - 128) < 64) ∧ (k + 1 ≤ 1 → v * 64 + (l[k].toNat - 128) < 4096) ∧ (k + 1 ≤ 2 → v * 64 + (l[k].toNat - 128) < 262144) := by omega
      simp only [Bool.not_true, Bool.false_eq_true, if_false, if_true]
      exact ih (k + 1) _ (by omega) hv2
theorem tTail (l : List UInt8) (m v : Nat) (hm3 : m ≤ 3) (hv : v < 64) : utf_tail l v m = some (match (if l.length < m then none else tailP m l v) with | some n => ((n : Int), true) | none => (0, false)) := by
  rw [utf_tail, ltI]
  by_cases h : l.length < m
  · rw [decide_eq_true h, if_pos h]; rfl
  · rw [decide_eq_false h, if_neg h]
    have := tTailL l m (by omega) hm3 m 0 v (by omega) (by omega)
    rw [List.drop_zero] at this
    rw [show (0 : Int) = ((0 : Nat) : Int) from rfl, this]
    cases tailP m l v <;> rfl
theorem tIsR (n : Nat) : utf_is (n : Int) = some (runeB n) := by
  have a : decide ((n : Int) ≥ 0) = true := decide_eq_true (by omega)
  have b : decide ((n : Int) ≤ 1114111) = decide (n ≤ 1114111) := by
    by_cases h : n ≤ 1114111
    · rw [decide_eq_true h, decide_eq_true (by omega)]
    · rw [decide_eq_false h, decide_eq_false (by omega)]
  rw [utf_is, a, b, runeB]
  by_cases h1 : n < 55296
  · rw [decide_eq_true (show (n : Int) < 55296 by omega), decide_eq_true (show n ≤ 1114111 by omega), decide_eq_false (show ¬ 55296 ≤ n by omega)]; rfl
  · rw [decide_eq_false (show ¬ (n : Int) < 55296 by omega), decide_eq_true (show 55296 ≤ n by omega)]
    by_cases h2 : n ≤ 57343
    · rw [decide_eq_false (show ¬ (n : Int) > 57343 by omega), decide_eq_true h2, decide_eq_true (show n ≤ 1114111 by omega)]; rfl
    · rw [decide_eq_true (show (n : Int) > 57343 by omega), decide_eq_false h2]
      cases decide (n ≤ 1114111) <;> rfl
theorem ltC (c : UInt8) (k : Nat) : decide ((c.toNat : Int) < (k : Int)) = decide (c.toNat < k) := ltI _ _
theorem geC (c : UInt8) (k : Nat) : decide ((c.toNat : Int) ≥ (k : Int)) = decide (k ≤ c.toNat) := by
  by_cases h : k ≤ c.toNat
  · rw [decide_eq_true h, decide_eq_true (by omega)]
  · rw [decide_eq_false h, decide_eq_false (by omega)]
/-- What Next makes of a tail. -/
def endP (o : Option Nat) (least m : Nat) : Nat × Nat := match o with
  | some n => if least ≤ n ∧ runeB n = true then (n, m + 1) else (65533, 1)
  | none => (65533, 1)
set_option maxRecDepth 20000 in
theorem tNext (s : List UInt8) (k : Nat) (hk : k < s.length) (hs : s.length < 9223372036854775807) : utf_Next s k = some (((nextP (s.drop k)).1 : Int), ((nextP (s.drop k)).2 : Int)) := by
  have d1 : decide ((k : Int) < 0) = false := decide_eq_false (by omega)
  have d2 : decide ((k : Int) ≥ (s.length : Int)) = false := decide_eq_false (by omega)
  have hc := s[k].toNat_lt
  have hr : cutL s (wr ((k : Int) + 1)) (s.length : Int) = some (s.drop (k + 1)) := by
    rw [wr_succ (by omega), cutL_ok (by omega) (by omega) (by omega)]
    simp
  rw [utf_Next, d1, d2, hr, dropE hk]
  have l128 := ltC s[k] 128
  have g192 := geC s[k] 192
  have l224 := ltC s[k] 224
  have g224 := geC s[k] 224
  have l240 := ltC s[k] 240
  have g240 := geC s[k] 240
  have l248 := ltC s[k] 248
  have b1 : ∀ a b : Bool, (if a = true then some b else some false : Option Bool) = some (a && b) := fun a b => by cases a <;> rfl
  simp only [Bool.false_eq_true, if_false, bind_some', idx_nat, getE hk]
  rw [show (128 : Int) = ((128 : Nat) : Int) from rfl, show (192 : Int) = ((192 : Nat) : Int) from rfl, show (224 : Int) = ((224 : Nat) : Int) from rfl, show (240 : Int) = ((240 : Nat) : Int) from rfl, show (248 : Int) = ((248 : Nat) : Int) from rfl, l128, g192, l224, g224, l240, g240, l248]
  simp only [b1, bind_some']
  rw [nextP]
  unfold nextC
  have fin : ∀ (v least m : Nat), m ≤ 3 → v < 64 → (utf_tail (s.drop (k + 1)) (v : Int) (m : Int) >>= fun x10 =>
      (if (!x10.2) = true then some true else if decide (x10.1 < (least : Int)) = true then some true else utf_is x10.1 >>= fun x12 => some (!x12) : Option Bool) >>= fun o11 =>
      if o11 = true then some ((65533 : Int), (1 : Int)) else some (x10.1, wr ((m : Int) + 1))) =
      some (((endP (if (s.drop (k + 1)).length < m then none else tailP m (s.drop (k + 1)) v) least m).1 : Int), ((endP (if (s.drop (k + 1)).length < m then none else tailP m (s.drop (k + 1)) v) least m).2 : Int)) := fun v least m hm hv => by
    rw [tTail _ m v hm hv]
    cases (if (s.drop (k + 1)).length < m then none else tailP m (s.drop (k + 1)) v) with
    | none => rfl
    | some n =>
      simp only [bind_some', Bool.not_true, Bool.false_eq_true, if_false, ltI, tIsR, endP]
      by_cases h1 : n < least
      · rw [decide_eq_true h1, if_neg (fun h => absurd h.1 (by omega) : ¬ (least ≤ n ∧ runeB n = true))]; rfl
      · rw [decide_eq_false h1]
        cases hrn : runeB n with
        | true => rw [if_pos (⟨by omega, rfl⟩ : least ≤ n ∧ true = true), wr_succ (by omega)]; rfl
        | false => rw [if_neg (fun h => by cases h.2 : ¬ (least ≤ n ∧ false = true))]; rfl
  by_cases h1 : s[k].toNat < 128
  · rw [decide_eq_true h1, if_pos h1]
    simp only [if_true, bind_some']
    rw [i32_in (by omega) (by omega)]; rfl
  rw [decide_eq_false h1, if_neg h1]
  simp only [Bool.false_eq_true, if_false]
  have cc : ∀ c : UInt8, contB c = true → c.toNat - 128 < 64 := fun c h => by unfold contB at h; simp at h; omega
  by_cases h2 : 192 ≤ s[k].toNat ∧ s[k].toNat < 224
  · rw [decide_eq_true h2.1, decide_eq_true h2.2, if_pos h2, b31]
    simp only [Bool.and_true, if_true, bind_some']
    rw [i32_in (by omega) (by omega)]
    have f := fin (s[k].toNat % 32) 128 1 (by omega) (by omega)
    rw [show ((1 : Nat) : Int) = 1 from rfl] at f
    rw [f]
    have e : s[k].toNat % 32 = s[k].toNat - 192 := by omega
    rw [e]
    cases s.drop (k + 1) with
    | nil => rfl
    | cons c1 r1 =>
      simp only [List.length_cons, if_neg (by omega : ¬ r1.length + 1 < 1), tailP]
      cases h : contB c1 with
      | false => rfl
      | true =>
        have := cc c1 h
        have hr : runeB ((s[k].toNat - 192) * 64 + (c1.toNat - 128)) = true := by unfold runeB; rw [decide_eq_true (by omega), decide_eq_false (by omega)]; rfl
        simp only [if_true, endP, hr, and_true, true_and]
  rw [if_neg h2]
  have d2 : (decide (192 ≤ s[k].toNat) && decide (s[k].toNat < 224)) = false := by
    rw [Bool.and_eq_false_iff]
    by_cases h : 192 ≤ s[k].toNat
    · exact .inr (decide_eq_false (by omega))
    · exact .inl (decide_eq_false h)
  rw [d2]
  simp only [Bool.false_eq_true, if_false]
  by_cases h3 : 224 ≤ s[k].toNat ∧ s[k].toNat < 240
  · rw [decide_eq_true h3.1, decide_eq_true h3.2, if_pos h3, b15]
    simp only [Bool.and_true, if_true, bind_some']
    rw [i32_in (by omega) (by omega)]
    have f := fin (s[k].toNat % 16) 2048 2 (by omega) (by omega)
    rw [show ((2 : Nat) : Int) = 2 from rfl, show ((2048 : Nat) : Int) = 2048 from rfl] at f
    rw [f]
    have e : s[k].toNat % 16 = s[k].toNat - 224 := by omega
    rw [e]
    match s.drop (k + 1) with
    | [] => rfl
    | [c1] => rfl
    | c1 :: c2 :: r1 =>
      simp only [List.length_cons, if_neg (by omega : ¬ r1.length + 1 + 1 < 2), tailP]
      cases h : contB c1 with
      | false => rfl
      | true =>
        cases h' : contB c2 with
        | false => simp [endP]
        | true => simp only [if_true, endP, true_and]
  rw [if_neg h3]
  have d3 : (decide (224 ≤ s[k].toNat) && decide (s[k].toNat < 240)) = false := by
    rw [Bool.and_eq_false_iff]
    by_cases h : 224 ≤ s[k].toNat
    · exact .inr (decide_eq_false (by omega))
    · exact .inl (decide_eq_false h)
  rw [d3]
  simp only [Bool.false_eq_true, if_false]
  by_cases h4 : 240 ≤ s[k].toNat ∧ s[k].toNat < 248
  · rw [decide_eq_true h4.1, decide_eq_true h4.2, if_pos h4, b7]
    simp only [Bool.and_true, if_true, bind_some']
    rw [i32_in (by omega) (by omega)]
    have f := fin (s[k].toNat % 8) 65536 3 (by omega) (by omega)
    rw [show ((3 : Nat) : Int) = 3 from rfl, show ((65536 : Nat) : Int) = 65536 from rfl] at f
    rw [f]
    have e : s[k].toNat % 8 = s[k].toNat - 240 := by omega
    rw [e]
    match s.drop (k + 1) with
    | [] => rfl
    | [c1] => rfl
    | [c1, c2] => rfl
    | c1 :: c2 :: c3 :: r1 =>
      simp only [List.length_cons, if_neg (by omega : ¬ r1.length + 1 + 1 + 1 < 3), tailP]
      cases h : contB c1 with
      | false => rfl
      | true =>
        cases h' : contB c2 with
        | false => simp [endP]
        | true =>
          cases h'' : contB c3 with
          | false => simp [endP]
          | true => simp only [if_true, endP, true_and]
  rw [if_neg h4]
  have d4 : (decide (240 ≤ s[k].toNat) && decide (s[k].toNat < 248)) = false := by
    rw [Bool.and_eq_false_iff]
    by_cases h : 240 ≤ s[k].toNat
    · exact .inr (decide_eq_false (by omega))
    · exact .inl (decide_eq_false h)
  rw [d4]
  rfl
theorem nextP_size (l : List UInt8) (h : l ≠ []) : 1 ≤ (nextP l).2 ∧ (nextP l).2 ≤ l.length := by
  cases l with
  | nil => exact absurd rfl h
  | cons c r =>
    rw [nextP]
    unfold nextC
    split
    · simp
    · split
      · split
        · split <;> simp
        · simp
      · split
        · split
          · split <;> simp
          · simp
        · split
          · split
            · split <;> simp
            · simp
          · simp
end Go.Proofs.YtebkhehjfkmdiaaDoor
end

section
namespace Go.Proofs.YtebkhehjfkmdiaaDoor
open Go.RowKit

theorem td (n k : Nat) : ((n : Int).tdiv (k : Int)) = ((n / k : Nat) : Int) := by rw [Int.tdiv_eq_ediv_of_nonneg (by omega)]; rfl
theorem tm (n k : Nat) : ((n : Int).tmod (k : Int)) = ((n % k : Nat) : Int) := by rw [Int.tmod_eq_emod_of_nonneg (by omega)]; rfl
end Go.Proofs.YtebkhehjfkmdiaaDoor
end
