/- The abstract layer, part 23: regions that draw their order and make variables: what was there ahead of the region, and what the region makes. -/
import Derived.Test.YtlhjieapkcnghaaDcF
namespace Go.Proofs.Ytlhjieapkcnghaa
open Go.RowKit

/-- Slots that point into what the region itself makes. -/
def freshGo : List Oper → List Nat → List Nat
  | [], acc => acc
  | o :: r, acc => match o.dst, o.op with
    | some t, .alloc _ => freshGo r (t :: acc)
    | some t, .box _ _ => freshGo r (t :: acc)
    | some t, .fieldAddr _ (.tmp x) _ => freshGo r (if acc.contains x then t :: acc else acc)
    | some t, .indexAddr _ (.tmp x) _ => freshGo r (if acc.contains x then t :: acc else acc)
    | some t, .nilCheck (.tmp x) => freshGo r (if acc.contains x then t :: acc else acc)
    | some t, .move (.tmp x) => freshGo r (if acc.contains x then t :: acc else acc)
    | _, _ => freshGo r acc
def isFr (ops : List Oper) (i : Nat) : Bool := match ops[i]? with
  | some o => match o.op with
    | .load _ (.tmp x) => (freshGo ops []).contains x
    | .store _ (.tmp x) _ => (freshGo ops []).contains x
    | _ => false
  | none => false
/-- Does an operation look but at what the region makes (a call: so the table says). -/
def isFr2 (hvl : List Nat) (ops : List Oper) (i : Nat) : Bool := isFr ops i || hvl.contains (1000 + i)
structure Fl2 where
  rd : Bool
  wr : Bool
  nu : Bool
  tk : Bool
/-- What an operation reads of what was there, writes of it, whether it looks at what is made, at tokens. -/
def flags2 (hv fr : Bool) : Op → Fl2
  | .load _ _ => ⟨!fr, false, fr, false⟩
  | .store _ _ _ => ⟨!fr, !fr, fr, false⟩
  | .alloc _ | .box _ _ => ⟨false, false, true, false⟩
  | .call c => match c.callee with
    | .builtin .append => ⟨false, false, false, true⟩
    | .value _ => if hv && fr then ⟨false, false, true, true⟩ else ⟨true, hv, hv, hv⟩
    | _ => ⟨false, false, false, false⟩
  | _ => ⟨false, false, false, false⟩
theorem flags2_wr (hv fr : Bool) (o : Op) (h : (flags2 hv fr o).wr = true) : (flags2 hv fr o).rd = true := by
  revert h
  unfold flags2
  split
  · exact fun h => by cases h
  · exact fun h => h
  · exact fun h => by cases h
  · exact fun h => by cases h
  · split
    · exact fun h => by cases h
    · split
      · exact fun h => by cases h
      · exact fun _ => rfl
    · exact fun h => by cases h
  · exact fun h => by cases h
def okP (base : Nat) (fr : Bool) : Option D → Bool
  | some (.ptr nm _) => Nat.ble base nm == fr
  | _ => true
/-- A call that reads but what was there ahead of the region. -/
structure CallD (base : Nat) (P : Program) (f : FuncId) (args : List D) (s : S) (r : D) (s' : S) : Prop where
  eq : s' = s
  quiet : ∀ (heap : List (List D)) live, base ≤ heap.length → heap.take base = s.heap.take base → CallOK P f args ⟨heap, live⟩ r ⟨heap, live⟩
/-- A call that turns but what the region itself has made. -/
structure CallF (base : Nat) (P : Program) (f : FuncId) (args : List D) (s : S) (r : D) (s' : S) : Prop where
  len : base ≤ s'.heap.length
  eq : s'.heap.take base = s.heap.take base
  ok : ∀ (heap : List (List D)), base ≤ heap.length → heap.drop base = s.heap.drop base → CallOK P f args ⟨heap, s.live⟩ r ⟨heap.take base ++ s'.heap.drop base, s'.live⟩
def aCallD (hv fr : Bool) (base : Nat) (P : Program) (c : Call) (e : Operand → Option D) (s : S) (K : D → S → Prop) : Prop :=
  match c.callee with
  | .value f => match e f, evs e c.args.toList with
    | some (.fn (.func g) first cap), some ds => match hv with
      | true => match fr with
        | true => ∃ r s', CallF base P g ((first ++ ds ++ cap).map dn) s r s' ∧ K r s'
        | false => ∃ r s', CallC true P g ((first ++ ds ++ cap).map dn) s r s' ∧ base ≤ s'.heap.length ∧ K r s'
      | false => ∃ r s', CallD base P g ((first ++ ds ++ cap).map dn) s r s' ∧ K r s'
    | _, _ => False
  | _ => False
def ptrOf : Op → Option Operand
  | .load _ x => some x
  | .store _ x _ => some x
  | _ => none
section
variable {P : Program} {tb : Tbl}
def dStep (base : Nat) (hv fr : Bool) (P : Program) (tb : Tbl) (o : Op) (e : Operand → Option D) (s : S) (K : D → S → Prop) : Prop :=
  match isCall o with
  | some c => aCallD hv fr base P c e s K
  | none => match ptrOf o with
    | some x => match okP base fr (e x) with
      | true => bStep false P tb o e s K
      | false => False
    | none => bStep false P tb o e s K
theorem dStep_b {base : Nat} {hv fr : Bool} {o : Op} {e : Operand → Option D} {s : S} {K : D → S → Prop} (hb : base ≤ s.heap.length) (h : dStep base hv fr P tb o e s K) : bStep true P tb o e s K := by
  have key : isCall o = none → bStep false P tb o e s K → bStep true P tb o e s K := fun hc h => by
    unfold bStep aStep at h ⊢
    rw [hc] at h ⊢
    exact h
  unfold dStep at h
  split at h
  · rename_i c hc
    have hv' : viewed o = false := by
      cases o with
      | call c' =>
        simp only [isCall] at hc
        split at hc
        · rename_i f hf; simp [viewed, hf]
        · cases hc
      | _ => cases hc
    have e1 : ∀ K d (s : S), vw o K d s = K d s := fun K d s => by unfold vw; rw [hv']
    unfold bStep aStep
    rw [hc]
    unfold aCallD at h
    unfold aCall
    split at h
    · rename_i f hf
      split at h
      · rename_i g first cap ds h1 h2
        simp only [hf, h1, h2]
        split at h
        · split at h
          · obtain ⟨r, s', hr, hk⟩ := h
            have := hr.ok s.heap hb rfl
            rw [← hr.eq, List.take_append_drop] at this
            exact ⟨r, s', ⟨this, fun h => by cases h⟩, by rw [e1]; exact hk⟩
          · obtain ⟨r, s', hr, -, hk⟩ := h
            exact ⟨r, s', hr, by rw [e1]; exact hk⟩
        · obtain ⟨r, s', hr, hk⟩ := h
          have := hr.eq
          subst this
          exact ⟨r, s', ⟨hr.quiet s'.heap s'.live hb rfl, fun h => by cases h⟩, by rw [e1]; exact hk⟩
      · exact h.elim
    · exact h.elim
  · rename_i hc
    split at h
    · split at h
      · exact key hc h
      · exact h.elim
    · exact key hc h

/-! ### what a step hangs on -/
def mix (base : Nat) (f : Fl2) (s1 s' : S) : S := ⟨(if f.wr then s1.heap.take base else s'.heap.take base) ++ (if f.nu then s1.heap.drop base else s'.heap.drop base), if f.tk then s1.live else s'.live⟩
theorem takeLen {α : Type} {l : List α} {n : Nat} (h : n ≤ l.length) : (l.take n).length = n := by rw [List.length_take]; omega
theorem mix_take {base : Nat} {f : Fl2} {s1 s' : S} (h1 : base ≤ s1.heap.length) (h2 : base ≤ s'.heap.length) : (mix base f s1 s').heap.take base = if f.wr then s1.heap.take base else s'.heap.take base := by
  unfold mix
  have : (if f.wr then s1.heap.take base else s'.heap.take base).length = base := by split <;> exact takeLen (by assumption)
  simp only
  rw [List.take_append_of_le_length (by omega), List.take_of_length_le (by omega)]
theorem mix_drop {base : Nat} {f : Fl2} {s1 s' : S} (h1 : base ≤ s1.heap.length) (h2 : base ≤ s'.heap.length) : (mix base f s1 s').heap.drop base = if f.nu then s1.heap.drop base else s'.heap.drop base := by
  unfold mix
  have : (if f.wr then s1.heap.take base else s'.heap.take base).length = base := by split <;> exact takeLen (by assumption)
  simp only
  rw [List.drop_append_of_le_length (by omega), List.drop_of_length_le (by omega), List.nil_append]
theorem mix_len {base : Nat} {f : Fl2} {s1 s' : S} (h1 : base ≤ s1.heap.length) (h2 : base ≤ s'.heap.length) : base ≤ (mix base f s1 s').heap.length := by
  unfold mix
  have : (if f.wr then s1.heap.take base else s'.heap.take base).length = base := by split <;> exact takeLen (by assumption)
  simp only [List.length_append]; omega
theorem S.ext2 {base : Nat} {a b : S} (h1 : a.heap.take base = b.heap.take base) (h2 : a.heap.drop base = b.heap.drop base) (h3 : a.live = b.live) : a = b := by
  refine S.ext' ?_ h3
  rw [← List.take_append_drop base a.heap, h1, h2, List.take_append_drop]
def Loc2 (base : Nat) (f : Fl2) (X : S → (D → S → Prop) → Prop) : Prop := ∀ s K, base ≤ s.heap.length → X s K → ∃ d s1, K d s1 ∧ base ≤ s1.heap.length ∧ (f.wr = false → s1.heap.take base = s.heap.take base) ∧ (f.nu = false → s1.heap.drop base = s.heap.drop base) ∧
  (f.tk = false → s1.live = s.live) ∧ ∀ (s' : S) K', base ≤ s'.heap.length → (f.rd = true → s'.heap.take base = s.heap.take base) → (f.nu = true → s'.heap.drop base = s.heap.drop base) → (f.tk = true → s'.live = s.live) → K' d (mix base f s1 s') → X s' K'
theorem Loc2.false (base : Nat) (f : Fl2) : Loc2 base f fun _ _ => False := fun _ _ _ h => h.elim
/-- What hangs on no memory may be said to hang on some. -/
theorem Loc2.pure {base : Nat} {f : Fl2} (hw : f.wr = true → f.rd = true) {X : S → (D → S → Prop) → Prop} (h : Loc ⟨Bool.false, Bool.false, Bool.false⟩ X) : Loc2 base f X := fun s K hb hx => by
  obtain ⟨d, s1, h1, h2, h3, h4⟩ := h s K hx
  have e : s1 = s := S.ext' (h2 rfl) (h3 rfl)
  subst e
  refine ⟨d, s1, h1, hb, fun _ => rfl, fun _ => rfl, fun _ => rfl, fun s' K' hb' e1 e2 e3 hk => h4 s' K' (fun h => by cases h) (fun h => by cases h) ?_⟩
  have e : mix base f s1 s' = s' := by
    refine S.ext2 (base := base) ?_ ?_ ?_
    · rw [mix_take hb hb']; split
      · rename_i h; exact (e1 (hw h)).symm
      · rfl
    · rw [mix_drop hb hb']; split
      · rename_i h; exact (e2 h).symm
      · rfl
    · show (if f.tk then s1.live else s'.live) = s'.live
      split
      · rename_i h; exact (e3 h).symm
      · rfl
  rw [e] at hk
  exact hk
theorem Loc2.live {base : Nat} {X : S → (D → S → Prop) → Prop} (h : Loc ⟨Bool.false, Bool.false, true⟩ X) : Loc2 base ⟨Bool.false, Bool.false, Bool.false, true⟩ X := fun s K hb hx => by
  obtain ⟨d, s1, h1, h2, h3, h4⟩ := h s K hx
  have e : s1.heap = s.heap := h2 rfl
  refine ⟨d, s1, h1, by rw [e]; exact hb, fun _ => by rw [e], fun _ => by rw [e], (fun h => by cases h), fun s' K' hb' e1 e2 e3 hk => h4 s' K' (fun h => by cases h) (fun _ => e3 rfl) ?_⟩
  have e : mix base ⟨Bool.false, Bool.false, Bool.false, true⟩ s1 s' = ⟨s'.heap, s1.live⟩ := by
    unfold mix; simp
  rw [e] at hk
  exact hk
/-- All is looked at. -/
theorem Loc2.all {base : Nat} {X : S → (D → S → Prop) → Prop} (h : ∀ s K, base ≤ s.heap.length → X s K → ∃ d s1, K d s1 ∧ base ≤ s1.heap.length ∧ ∀ K', K' d s1 → X s K') : Loc2 base ⟨true, true, true, true⟩ X := fun s K hb hx => by
  obtain ⟨d, s1, h1, h2, h3⟩ := h s K hb hx
  refine ⟨d, s1, h1, h2, (fun h => by cases h), (fun h => by cases h), (fun h => by cases h), fun s' K' hb' e1 e2 e3 hk => ?_⟩
  have : s' = s := S.ext2 (base := base) (e1 rfl) (e2 rfl) (e3 rfl)
  subst this
  refine h3 K' ?_
  have e : mix base ⟨true, true, true, true⟩ s1 s' = s1 := by unfold mix; simp
  rw [e] at hk
  exact hk
theorem dropGet {α : Type} (l : List α) {base nm : Nat} (h : base ≤ nm) : l[nm]? = (l.drop base)[nm - base]? := by rw [List.getElem?_drop]; congr 1; omega
theorem takeGetE {α : Type} (l : List α) {base nm : Nat} (h : nm < base) : l[nm]? = (l.take base)[nm]? := by rw [List.getElem?_take, if_pos h]
theorem load_loc {base : Nat} {hv fr : Bool} {t : Nat} {x : Operand} {e : Operand → Option D} (hok : okP base fr (e x) = true) : Loc2 base (flags2 hv fr (.load t x)) fun s K => bStep false P tb (.load t x) e s K := by
  intro s K hb h
  have hvw : ∀ (K : D → S → Prop) s' K', (bStep false P tb (.load t x) e s K → bStep false P tb (.load t x) e s' K') = (aOp tb (.load t x) e s K → aOp tb (.load t x) e s' K') := fun _ _ _ => rfl
  have h0 : aOp tb (.load t x) e s K := h
  show ∃ d s1, K d s1 ∧ _ ∧ _ ∧ _ ∧ _ ∧ ∀ (s' : S) K', _ → _ → _ → _ → _ → aOp tb (.load t x) e s' K'
  have hwr : (flags2 hv fr (.load t x)).wr = true → (flags2 hv fr (.load t x)).rd = true := flags2_wr hv fr _
  unfold aOp at h0
  simp only at h0
  split at h0
  · rename_i ti cs ht hx
    refine Loc2.pure (X := fun s K => aOp tb (.load t x) e s K) hwr ?_ s K hb (by unfold aOp; simp only [ht, hx]; exact h0)
    have := (aLoadV_pur ti cs).loc Bool.false
    intro s K h
    unfold aOp at h
    simp only [ht, hx] at h
    obtain ⟨d, s1, a1, a2, a3, a4⟩ := this s K h
    refine ⟨d, s1, a1, a2, a3, fun s' K' q1 q2 hk => ?_⟩
    have := a4 s' K' q1 q2 hk
    unfold aOp
    simp only [ht, hx]
    exact this
  · rename_i ti nm off ht hx
    split at h0
    · rename_i ds hds
      obtain ⟨d, h1, h2⟩ := aLoadD_pur ti (ds.drop off) s K h0
      refine ⟨d, s, h1, hb, fun _ => rfl, fun _ => rfl, fun _ => rfl, fun s' K' hb' e1 e2 e3 hk => ?_⟩
      have hok' : (Nat.ble base nm == fr) = true := by rw [hx] at hok; exact hok
      have hg : s'.heap[nm]? = some ds := by
        by_cases hn : base ≤ nm
        · have hfr : fr = true := by rw [Nat.ble_eq_true_of_le hn] at hok'; simpa using hok'.symm
          subst hfr
          rw [dropGet _ hn, e2 rfl, ← dropGet _ hn]; exact hds
        · have hfr : fr = false := by
            have : Nat.ble base nm = false := by
              cases hq : Nat.ble base nm
              · rfl
              · exact absurd (Nat.le_of_ble_eq_true hq) hn
            rw [this] at hok'; simpa using hok'.symm
          subst hfr
          rw [takeGetE (base := base) (nm := nm) _ (by omega), e1 rfl, ← takeGetE (base := base) (nm := nm) _ (by omega)]; exact hds
      have em : mix base (flags2 hv fr (.load t x)) s s' = s' := by
        refine S.ext2 (base := base) ?_ ?_ ?_
        · rw [mix_take hb hb']; split
          · rename_i h; exact (e1 (hwr h)).symm
          · rfl
        · rw [mix_drop hb hb']; split
          · rename_i h; exact (e2 h).symm
          · rfl
        · rfl
      rw [em] at hk
      unfold aOp
      simp only [ht, hx, hg]
      exact h2 s' K' hk
    · exact h0.elim
  · exact h0.elim
theorem alloc_loc {base : Nat} (l : List (Program × Nat × Nat)) (ds : List D) : Loc2 base ⟨false, false, true, false⟩ fun s K => K (.ptr s.heap.length 0) { s with heap := s.heap ++ [spAt s.heap.length l ds] } := by
  intro s K hb h
  refine ⟨_, _, h, by simp; omega, fun _ => by rw [List.take_append_of_le_length hb], (fun h => by cases h), fun _ => rfl, fun s' K' hb' e1 e2 e3 hk => ?_⟩
  have hl : s'.heap.length = s.heap.length := by
    have := congrArg List.length (e2 rfl)
    simp only [List.length_drop] at this
    omega
  generalize hx : spAt s.heap.length l ds = x at hk ⊢
  have em : mix base ⟨false, false, true, false⟩ ⟨s.heap ++ [x], s.live⟩ s' = ⟨s'.heap ++ [x], s'.live⟩ := by
    refine S.ext2 (base := base) ?_ ?_ rfl
    · rw [mix_take (by simp; omega) hb']; simp only [Bool.false_eq_true, if_false]; rw [List.take_append_of_le_length hb']
    · rw [mix_drop (by simp; omega) hb']; simp only [if_true]; rw [List.drop_append_of_le_length hb, List.drop_append_of_le_length hb', e2 rfl]
  rw [em] at hk
  show K' (.ptr s'.heap.length 0) { s' with heap := s'.heap ++ [spAt s'.heap.length l ds] }
  rw [hl, hx]
  exact hk
theorem box_loc {base : Nat} (t : Nat) (d : D) : Loc2 base ⟨false, false, true, false⟩ fun s K => aBox tb t d s K := by
  unfold aBox
  split
  · exact alloc_loc _ _
  · exact .false _ _
theorem setTake {α : Type} (l : List α) {base nm : Nat} (v : α) (h : nm < base) : (l.set nm v).take base = (l.take base).set nm v ∧ (l.set nm v).drop base = l.drop base := by
  constructor
  · rw [List.take_set]
  · rw [List.drop_set, if_pos h]
theorem setDrop {α : Type} (l : List α) {base nm : Nat} (v : α) (h : base ≤ nm) : (l.set nm v).take base = l.take base ∧ (l.set nm v).drop base = (l.drop base).set (nm - base) v := by
  constructor
  · rw [List.take_set, List.set_eq_of_length_le]; rw [List.length_take]; omega
  · rw [List.drop_set, if_neg (by omega)]
theorem store_loc {base : Nat} {hv fr : Bool} {t : Nat} {x y : Operand} {e : Operand → Option D} (hok : okP base fr (e x) = true) : Loc2 base (flags2 hv fr (.store t x y)) fun s K => bStep false P tb (.store t x y) e s K := by
  intro s K hb h
  have h0 : aOp tb (.store t x y) e s K := h
  show ∃ d s1, K d s1 ∧ _ ∧ _ ∧ _ ∧ _ ∧ ∀ (s' : S) K', _ → _ → _ → _ → _ → aOp tb (.store t x y) e s' K'
  unfold aOp at h0
  simp only at h0
  split at h0
  · rename_i a b ha hbb
    unfold aStore at h0
    split at h0
    · rename_i ti nm off cs ht hcs
      split at h0
      · rename_i ds hds
        split at h0
        · rename_i hc
          have hok' : (Nat.ble base nm == fr) = true := by rw [ha] at hok; exact hok
          have hnl : nm < s.heap.length := (List.getElem?_eq_some_iff.1 hds).1
          refine ⟨_, _, h0, by simpa using hb, fun hw => ?_, fun hn => ?_, fun _ => rfl, fun s' K' hb' e1 e2 e3 hk => ?_⟩
          · have hfr : fr = true := by simpa [flags2] using hw
            subst hfr
            have hn : base ≤ nm := Nat.le_of_ble_eq_true (by simpa using hok')
            exact (setDrop _ _ hn).1
          · have hfr : fr = false := by simpa [flags2] using hn
            subst hfr
            have hn : nm < base := by
              have : Nat.ble base nm = false := by simpa using hok'
              exact Nat.lt_of_not_le fun hle => by rw [Nat.ble_eq_true_of_le hle] at this; cases this
            exact (setTake _ _ hn).2
          · by_cases hn : base ≤ nm
            · have hfr : fr = true := by rw [Nat.ble_eq_true_of_le hn] at hok'; simpa using hok'.symm
              subst hfr
              have hg : s'.heap[nm]? = some ds := by rw [dropGet _ hn, e2 rfl, ← dropGet _ hn]; exact hds
              have em : mix base (flags2 hv true (.store t x y)) ⟨s.heap.set nm (ds.take off ++ cs ++ ds.drop (off + cs.length)), s.live⟩ s' = ⟨s'.heap.set nm (ds.take off ++ cs ++ ds.drop (off + cs.length)), s'.live⟩ := by
                refine S.ext2 (base := base) ?_ ?_ rfl
                · rw [mix_take (by simpa using hb) hb']
                  simp only [flags2, Bool.not_true, Bool.false_eq_true, if_false]
                  exact (setDrop _ _ hn).1.symm
                · rw [mix_drop (by simpa using hb) hb']
                  simp only [flags2, if_true]
                  rw [(setDrop _ _ hn).2, (setDrop _ _ hn).2, e2 rfl]
              rw [em] at hk
              unfold aOp aStore
              simp only [ha, hbb, ht, hcs, hg]
              rw [if_pos hc]
              exact hk
            · have hfr : fr = false := by
                have : Nat.ble base nm = false := by
                  cases hq : Nat.ble base nm
                  · rfl
                  · exact absurd (Nat.le_of_ble_eq_true hq) hn
                rw [this] at hok'; simpa using hok'.symm
              subst hfr
              have hg : s'.heap[nm]? = some ds := by rw [takeGetE (base := base) (nm := nm) _ (by omega), e1 rfl, ← takeGetE (base := base) (nm := nm) _ (by omega)]; exact hds
              have em : mix base (flags2 hv false (.store t x y)) ⟨s.heap.set nm (ds.take off ++ cs ++ ds.drop (off + cs.length)), s.live⟩ s' = ⟨s'.heap.set nm (ds.take off ++ cs ++ ds.drop (off + cs.length)), s'.live⟩ := by
                refine S.ext2 (base := base) ?_ ?_ rfl
                · rw [mix_take (by simpa using hb) hb']
                  simp only [flags2, Bool.not_false, if_true]
                  rw [(setTake _ _ (by omega)).1, (setTake _ _ (by omega)).1, e1 rfl]
                · rw [mix_drop (by simpa using hb) hb']
                  simp only [flags2, Bool.false_eq_true, if_false]
                  exact (setTake _ _ (by omega)).2.symm
              rw [em] at hk
              unfold aOp aStore
              simp only [ha, hbb, ht, hcs, hg]
              rw [if_pos hc]
              exact hk
        · exact h0.elim
      · exact h0.elim
    · exact h0.elim
  · exact h0.elim
theorem call_loc {base : Nat} {hv fr : Bool} (hf : (hv && fr) = false) (c : Call) (e : Operand → Option D) : Loc2 base ⟨true, hv, hv, hv⟩ fun s K => aCallD hv fr base P c e s K := by
  cases hv with
  | true =>
    have hf : fr = false := by simpa using hf
    subst hf
    refine Loc2.all fun s K hb h => ?_
    unfold aCallD at h ⊢
    split at h
    · split at h
      · obtain ⟨r, s', hr, hl, hk⟩ := h
        exact ⟨r, s', hk, hl, fun K' hk' => ⟨r, s', hr, hl, hk'⟩⟩
      · exact h.elim
    · exact h.elim
  | false =>
    intro s K hb h
    unfold aCallD at h ⊢
    split at h
    · split at h
      · obtain ⟨r, s', hr, hk⟩ := h
        have := hr.eq
        subst this
        refine ⟨r, s', hk, hb, fun _ => rfl, fun _ => rfl, fun _ => rfl, fun s2 K' hb2 e1 e2 e3 hk' => ⟨r, s2, ⟨rfl, fun heap live hl he => hr.quiet heap live hl (he.trans (e1 rfl))⟩, ?_⟩⟩
        have em : mix base ⟨true, false, false, false⟩ s' s2 = s2 := by unfold mix; simp
        rw [em] at hk'
        exact hk'
      · exact h.elim
    · exact h.elim
theorem call_locF {base : Nat} (c : Call) (e : Operand → Option D) : Loc2 base ⟨false, false, true, true⟩ fun s K => aCallD true true base P c e s K := by
  intro s K hb h
  unfold aCallD at h ⊢
  split at h
  · split at h
    · obtain ⟨r, s', hr, hk⟩ := h
      refine ⟨r, s', hk, hr.len, fun _ => hr.eq, (fun h => by cases h), (fun h => by cases h), fun s2 K' hb2 e1 e2 e3 hk' => ⟨r, mix base ⟨false, false, true, true⟩ s' s2, ⟨mix_len hr.len hb2, ?_, fun heap hl he => ?_⟩, hk'⟩⟩
      · rw [mix_take hr.len hb2]; rfl
      · have := hr.ok heap hl (he.trans (e2 rfl))
        rw [mix_drop hr.len hb2, e3 rfl]
        exact this
    · exact h.elim
  · exact h.elim
theorem dStep_loc {base : Nat} {hv fr : Bool} (o : Op) (e : Operand → Option D) : Loc2 base (flags2 hv fr o) fun s K => dStep base hv fr P tb o e s K := by
  have hb0 := bStep_loc (tb := tb) (P := P) o e
  cases o with
  | call c =>
    cases hc : c.callee with
    | value f =>
      have e1 : isCall (.call c) = some c := by simp [isCall, hc]
      unfold dStep
      simp only [e1]
      cases hvf : (hv && fr) with
      | false =>
        have e2 : flags2 hv fr (.call c) = ⟨true, hv, hv, hv⟩ := by simp [flags2, hc, hvf]
        rw [e2]
        exact call_loc hvf c e
      | true =>
        have e2 : flags2 hv fr (.call c) = ⟨false, false, true, true⟩ := by simp only [flags2, hc, hvf, if_true]
        rw [e2]
        simp only [Bool.and_eq_true] at hvf
        rw [hvf.1, hvf.2]
        exact call_locF c e
    | invoke r m =>
      have e1 : isCall (.call c) = none := by simp [isCall, hc]
      have e2 : flags2 hv fr (.call c) = ⟨false, false, false, false⟩ := by simp [flags2, hc]
      rw [e2]
      unfold dStep
      simp only [e1, ptrOf]
      refine Loc2.pure (fun h => by cases h) ?_
      have : flags (.call c) = ⟨false, false, false⟩ := by simp [flags, hc]
      rw [this] at hb0
      exact hb0
    | builtin b =>
      have e1 : isCall (.call c) = none := by simp [isCall, hc]
      unfold dStep
      simp only [e1, ptrOf]
      by_cases hb : b = .append
      · subst hb
        have e2 : flags2 hv fr (.call c) = ⟨false, false, false, true⟩ := by simp [flags2, hc]
        have e3 : flags (.call c) = ⟨false, false, true⟩ := by simp [flags, hc]
        rw [e2]
        rw [e3] at hb0
        exact Loc2.live hb0
      · have e2 : flags2 hv fr (.call c) = ⟨false, false, false, false⟩ := by
          cases b <;> first | rfl | (exact absurd rfl hb) | simp [flags2, hc]
        have e3 : flags (.call c) = ⟨false, false, false⟩ := by
          cases b <;> first | rfl | (exact absurd rfl hb) | simp [flags, hc]
        rw [e2]
        rw [e3] at hb0
        exact Loc2.pure (fun h => by cases h) hb0
  | load t x =>
    unfold dStep
    simp only [isCall, ptrOf]
    cases hok : okP base fr (e x) with
    | true => exact load_loc hok
    | false => exact .false _ _
  | store t x y =>
    unfold dStep
    simp only [isCall, ptrOf]
    cases hok : okP base fr (e x) with
    | true => exact store_loc hok
    | false => exact .false _ _
  | alloc t =>
    show Loc2 base ⟨false, false, true, false⟩ fun s K => aAlloc tb t s K
    unfold aAlloc
    split
    · split
      · split
        · exact alloc_loc _ _
        · exact .false _ _
      · exact .false _ _
    · exact .false _ _
  | box t x =>
    show Loc2 base ⟨false, false, true, false⟩ fun s K => match e x with | some d => aBox tb t d s K | none => False
    split
    · exact box_loc _ _
    · exact .false _ _
  | _ => exact Loc2.pure (fun h => by cases h) hb0
theorem dStep_congr {base : Nat} {hv fr : Bool} (o : Op) {e e' : Operand → Option D} (h : ∀ x ∈ o.operands.toList, e x = e' x) (s : S) (K : D → S → Prop) : dStep base hv fr P tb o e s K = dStep base hv fr P tb o e' s K := by
  have hb := bStep_congr (P := P) (tb := tb) (gn := false) o h s K
  cases o with
  | call c =>
    cases hc : c.callee with
    | value f =>
      have h1 : e f = e' f := h f (by simp [Op.operands, Call.operands, hc])
      have h2 := evs_congr (e := e) (e' := e') c.args.toList fun x hx => h x (by simp [Op.operands, Call.operands, hc]; exact .inr (by simpa using hx))
      simp only [dStep, isCall, hc, aCallD, h1, h2]
    | invoke r m => simp only [dStep, isCall, hc, ptrOf, hb]
    | builtin b => simp only [dStep, isCall, hc, ptrOf, hb]
  | load t x =>
    have h1 : e x = e' x := h x (by simp [Op.operands])
    simp only [dStep, isCall, ptrOf, hb, h1]
  | store t x y =>
    have h1 : e x = e' x := h x (by simp [Op.operands])
    simp only [dStep, isCall, ptrOf, hb, h1]
  | _ => exact hb

/-! ### a region's operations, in any order -/
def fl2At (hvl : List Nat) (ops : List Oper) (i : Nat) : Fl2 := match ops[i]? with | some o => flags2 (hvl.contains i) (isFr2 hvl ops i) o.op | none => ⟨false, false, false, false⟩
theorem fl2At_wr (hvl : List Nat) (ops : List Oper) (i : Nat) (h : (fl2At hvl ops i).wr = true) : (fl2At hvl ops i).rd = true := by
  unfold fl2At at h ⊢
  split
  · rename_i o ho; rw [ho] at h; exact flags2_wr _ _ _ h
  · rename_i ho; rw [ho] at h; cases h
def indep2 (hvl : List Nat) (ops : List Oper) (i j : Nat) : Bool :=
  (match dstOf ops i with | some t => !(looksAt ops j).contains t | none => true) && (match dstOf ops j with | some t => !(looksAt ops i).contains t | none => true) &&
  (match dstOf ops i, dstOf ops j with | some t, some t' => !(t == t') | _, _ => true) &&
  !((fl2At hvl ops i).wr && (fl2At hvl ops j).rd) && !((fl2At hvl ops j).wr && (fl2At hvl ops i).rd) && !((fl2At hvl ops i).nu && (fl2At hvl ops j).nu) && !((fl2At hvl ops i).tk && (fl2At hvl ops j).tk)
theorem indep2_spec {hvl : List Nat} {ops : List Oper} {i j : Nat} (h : indep2 hvl ops i j = true) : (∀ t, dstOf ops i = some t → t ∉ looksAt ops j) ∧ (∀ t, dstOf ops j = some t → t ∉ looksAt ops i) ∧ (∀ t, dstOf ops i = some t → dstOf ops j ≠ some t) ∧
    ((fl2At hvl ops i).wr = true → (fl2At hvl ops j).rd = false) ∧ ((fl2At hvl ops j).wr = true → (fl2At hvl ops i).rd = false) ∧ ((fl2At hvl ops i).nu = true → (fl2At hvl ops j).nu = false) ∧ ((fl2At hvl ops i).tk = true → (fl2At hvl ops j).tk = false) := by
  unfold indep2 at h
  simp only [Bool.and_eq_true] at h
  obtain ⟨⟨⟨⟨⟨⟨h1, h2⟩, h3⟩, h4⟩, h5⟩, h6⟩, h7⟩ := h
  refine ⟨fun t ht => ?_, fun t ht => ?_, fun t ht ht' => ?_, fun e => ?_, fun e => ?_, fun e => ?_, fun e => ?_⟩
  · rw [ht] at h1; simpa using h1
  · rw [ht] at h2; simpa using h2
  · rw [ht, ht'] at h3; simp at h3
  · rw [e] at h4; simpa using h4
  · rw [e] at h5; simpa using h5
  · rw [e] at h6; simpa using h6
  · rw [e] at h7; simpa using h7
def dOne (base : Nat) (hvl : List Nat) (P : Program) (tb : Tbl) (N : Nat) (ops : List Oper) (i : Nat) (σ : St) (K : St → Prop) : Prop :=
  match ops[i]? with
  | none => K σ
  | some o => match aWant ops σ.env o.guard with
    | some true => dStep base (hvl.contains i) (isFr2 hvl ops i) P tb o.op (ev σ.env) σ.s fun d s' => splitB (isGuard ops i) d fun d => putE N σ.env o.dst d fun env' => K ⟨env', s'⟩
    | some false => putE N σ.env o.dst .undef fun env' => K ⟨env', σ.s⟩
    | none => False
def dOps (base : Nat) (hvl : List Nat) (P : Program) (tb : Tbl) (N : Nat) (ops : List Oper) : List Nat → St → (St → Prop) → Prop
  | [], σ, K => K σ
  | i :: r, σ, K => dOne base hvl P tb N ops i σ fun σ' => dOps base hvl P tb N ops r σ' K
theorem dOne_b {base : Nat} {hvl : List Nat} {N : Nat} {ops : List Oper} {i : Nat} {σ : St} {K : St → Prop} (hb : base ≤ σ.s.heap.length) (h : dOne base hvl P tb N ops i σ K) : bOne true P tb N ops i σ K := by
  unfold dOne at h
  unfold bOne
  split at h
  · rename_i ho; simp only [ho]; exact h
  · rename_i o ho
    simp only [ho]
    split at h
    · rename_i hw; rw [hw]; exact dStep_b hb h
    · rename_i hw; rw [hw]; exact h
    · exact h.elim
theorem dOne_loc {base : Nat} {hvl : List Nat} {N : Nat} {ops : List Oper} {i : Nat} {σ : St} {K : St → Prop} (hb : base ≤ σ.s.heap.length) (h : dOne base hvl P tb N ops i σ K) :
    ∃ d s1, K ⟨fset (dstOf ops i) d σ.env, s1⟩ ∧ base ≤ s1.heap.length ∧ ((fl2At hvl ops i).wr = false → s1.heap.take base = σ.s.heap.take base) ∧ ((fl2At hvl ops i).nu = false → s1.heap.drop base = σ.s.heap.drop base) ∧ ((fl2At hvl ops i).tk = false → s1.live = σ.s.live) ∧
      ∀ (τ : St) (K' : St → Prop), base ≤ τ.s.heap.length → (∀ t ∈ looksAt ops i, σ.env.lookup t = τ.env.lookup t) → ((fl2At hvl ops i).rd = true → τ.s.heap.take base = σ.s.heap.take base) → ((fl2At hvl ops i).nu = true → τ.s.heap.drop base = σ.s.heap.drop base) → ((fl2At hvl ops i).tk = true → τ.s.live = σ.s.live) →
        K' ⟨fset (dstOf ops i) d τ.env, mix base (fl2At hvl ops i) s1 τ.s⟩ → dOne base hvl P tb N ops i τ K' := by
  have self : ∀ (f : Fl2), (f.wr = true → f.rd = true) → ∀ (τ : St), base ≤ τ.s.heap.length → (f.rd = true → τ.s.heap.take base = σ.s.heap.take base) → (f.nu = true → τ.s.heap.drop base = σ.s.heap.drop base) → (f.tk = true → τ.s.live = σ.s.live) → mix base f σ.s τ.s = τ.s := fun f hw τ hb' e1 e2 e3 => by
    refine S.ext2 (base := base) ?_ ?_ ?_
    · rw [mix_take hb hb']; split
      · rename_i h; exact (e1 (hw h)).symm
      · rfl
    · rw [mix_drop hb hb']; split
      · rename_i h; exact (e2 h).symm
      · rfl
    · show (if f.tk then σ.s.live else τ.s.live) = τ.s.live
      split
      · rename_i h; exact (e3 h).symm
      · rfl
  unfold dOne at h ⊢
  cases ho : ops[i]? with
  | none =>
    simp only [ho] at h
    refine ⟨.undef, σ.s, ?_, hb, fun _ => rfl, fun _ => rfl, fun _ => rfl, fun τ K' hb' _ e1 e2 e3 hk => ?_⟩
    · simp only [dstOf, ho, Option.bind_none, fset]; exact h
    · rw [self _ (fl2At_wr hvl ops i) τ hb' e1 e2 e3] at hk
      simp only [dstOf, ho, Option.bind_none, fset] at hk ⊢; exact hk
  | some o =>
    have hd : dstOf ops i = o.dst := by simp [dstOf, ho]
    have hf : fl2At hvl ops i = flags2 (hvl.contains i) (isFr2 hvl ops i) o.op := by simp [fl2At, ho]
    have hl : looksAt ops i = looks ops o := by simp [looksAt, ho]
    simp only [ho] at h ⊢
    rw [hd, hf, hl]
    split at h
    · rename_i hw
      obtain ⟨d, s1, hk, h0, h1, h2, h2', h3⟩ := dStep_loc (tb := tb) (P := P) o.op (ev σ.env) σ.s _ hb h
      obtain ⟨k1, k2⟩ := splitB_det hk
      obtain ⟨p1, p2⟩ := putE_iff.1 k1
      refine ⟨d, s1, p2, h0, h1, h2, h2', fun τ K' hb' e1 e2 e2' e3 hk' => ?_⟩
      rw [← aWant_congr e1, hw]
      simp only
      rw [dStep_congr o.op fun x hx => (ev_congr e1 x hx).symm]
      exact h3 τ.s _ hb' e2 e2' e3 (k2 _ (putE_iff.2 ⟨p1, hk'⟩))
    · rename_i hw
      obtain ⟨p1, p2⟩ := putE_iff.1 h
      refine ⟨.undef, σ.s, p2, hb, fun _ => rfl, fun _ => rfl, fun _ => rfl, fun τ K' hb' e1 e2 e2' e3 hk' => ?_⟩
      rw [← aWant_congr e1, hw]
      refine putE_iff.2 ⟨p1, ?_⟩
      rw [self _ (flags2_wr _ _ _) τ hb' e2 e2' e3] at hk'
      exact hk'
    · exact h.elim
theorem dOne_mono {base : Nat} {hvl : List Nat} {N : Nat} {ops : List Oper} {i : Nat} {σ : St} {K K' : St → Prop} (hb : base ≤ σ.s.heap.length) (hK : ∀ τ, base ≤ τ.s.heap.length → K τ → K' τ) (h : dOne base hvl P tb N ops i σ K) : dOne base hvl P tb N ops i σ K' := by
  obtain ⟨d, s1, k, h0, h1, h2, h2', h3⟩ := dOne_loc hb h
  refine h3 σ K' hb (fun _ _ => rfl) (fun _ => rfl) (fun _ => rfl) (fun _ => rfl) ?_
  have e : mix base (fl2At hvl ops i) s1 σ.s = s1 := by
    refine S.ext2 (base := base) ?_ ?_ ?_
    · rw [mix_take h0 hb]; split
      · rfl
      · rename_i hw; exact (h1 (by simpa using hw)).symm
    · rw [mix_drop h0 hb]; split
      · rfl
      · rename_i hw; exact (h2 (by simpa using hw)).symm
    · show (if (fl2At hvl ops i).tk then s1.live else σ.s.live) = s1.live
      split
      · rfl
      · rename_i hw; exact (h2' (by simpa using hw)).symm
  rw [e]; exact hK _ h0 k
theorem dOne_eqv {base : Nat} {hvl : List Nat} {N : Nat} {ops : List Oper} {i : Nat} {σ τ : St} {K : St → Prop} (hb : base ≤ σ.s.heap.length) (hK : Closed K) (he : Eqv σ τ) (h : dOne base hvl P tb N ops i σ K) : dOne base hvl P tb N ops i τ K := by
  obtain ⟨d, s1, k, h0, h1, h2, h2', h3⟩ := dOne_loc hb h
  have hb' : base ≤ τ.s.heap.length := by rw [← he.2]; exact hb
  refine h3 τ K hb' (fun t _ => he.1 t) (fun _ => by rw [he.2]) (fun _ => by rw [he.2]) (fun _ => by rw [he.2]) (hK _ _ ⟨fun t => ?_, ?_⟩ k)
  · simp only [fset_look]; rw [he.1 t]
  · refine S.ext2 (base := base) ?_ ?_ ?_
    · rw [mix_take h0 hb']; split
      · rfl
      · rename_i hw; rw [h1 (by simpa using hw), he.2]
    · rw [mix_drop h0 hb']; split
      · rfl
      · rename_i hw; rw [h2 (by simpa using hw), he.2]
    · show s1.live = if (fl2At hvl ops i).tk then s1.live else τ.s.live
      split
      · rfl
      · rename_i hw; rw [h2' (by simpa using hw), he.2]
/-- As Closed, where the region's base stands. -/
def ClosedB (base : Nat) (K : St → Prop) : Prop := ∀ σ τ, base ≤ σ.s.heap.length → Eqv σ τ → K σ → K τ
theorem dOps_eqv {base : Nat} {hvl : List Nat} {N : Nat} {ops : List Oper} {K : St → Prop} (hK : Closed K) : ∀ l : List Nat, ClosedB base fun σ => dOps base hvl P tb N ops l σ K
  | [], σ, τ, _, he, h => hK σ τ he h
  | i :: r, σ, τ, hb, he, h => by
    have h1 : dOne base hvl P tb N ops i σ fun σ' => dOps base hvl P tb N ops r σ' K := h
    have h2 : dOne base hvl P tb N ops i σ fun σ' => ∃ υ, Eqv υ σ' ∧ base ≤ υ.s.heap.length ∧ dOps base hvl P tb N ops r υ K := dOne_mono hb (fun υ hu hk => ⟨υ, .refl υ, hu, hk⟩) h1
    have h3 := dOne_eqv hb (fun a b hab ⟨υ, k1, k2, k3⟩ => ⟨υ, k1.trans hab, k2, k3⟩) he h2
    exact dOne_mono (by rw [← he.2]; exact hb) (fun υ _ ⟨φ, k1, k2, k3⟩ => dOps_eqv hK r φ υ k2 k1 k3) h3
theorem dOne_swap {base : Nat} {hvl : List Nat} {N : Nat} {ops : List Oper} {i j : Nat} (hi : indep2 hvl ops i j = true) {σ : St} {K : St → Prop} (hb : base ≤ σ.s.heap.length) (hK : ClosedB base K) (h : dOne base hvl P tb N ops i σ fun σ1 => dOne base hvl P tb N ops j σ1 K) :
    dOne base hvl P tb N ops j σ fun σ1 => dOne base hvl P tb N ops i σ1 K := by
  obtain ⟨p1, p2, p3, p4, p5, p6, p7⟩ := indep2_spec hi
  obtain ⟨d, s1, k, h0, h1, h2, h2', h3⟩ := dOne_loc hb h
  obtain ⟨d', s2, k', h0', h1', hn', h2'', h3'⟩ := dOne_loc (σ := ⟨fset (dstOf ops i) d σ.env, s1⟩) h0 k
  have flip : ∀ {a b : Bool}, (a = true → b = false) → b = true → a = false := fun {a b} f hb => by
    cases a
    · rfl
    · rw [f rfl] at hb; cases hb
  refine h3' σ _ hb (fun t ht => ?_) (fun hr => ?_) (fun hr => ?_) (fun ht => ?_) ?_
  · rw [fset_look, if_neg fun e => p1 t e ht]
  · exact (h1 (flip p4 hr)).symm
  · exact (h2 (flip p6 hr)).symm
  · exact (h2' (flip p7 ht)).symm
  have hm2 := mix_len (f := fl2At hvl ops j) h0' hb
  refine h3 _ K hm2 (fun t ht => ?_) (fun hr => ?_) (fun hr => ?_) (fun ht => ?_) ?_
  · rw [fset_look, if_neg fun e => p2 t e ht]
  · rw [mix_take h0' hb, flip p5 hr]; rfl
  · rw [mix_drop h0' hb, p6 hr]; rfl
  · show (if (fl2At hvl ops j).tk then s2.live else σ.s.live) = σ.s.live
    rw [p7 ht]; rfl
  refine hK _ _ h0' ⟨fun t => ?_, S.ext2 (base := base) ?_ ?_ ?_⟩ k'
  · simp only [fset_look]
    by_cases e1 : dstOf ops j = some t
    · have e2 : dstOf ops i ≠ some t := fun e => p3 t e e1
      rw [if_pos e1, if_neg e2, if_pos e1]
    · rw [if_neg e1, if_neg e1]
  · rw [mix_take h0 hm2, mix_take h0' hb]
    cases hwi : (fl2At hvl ops i).wr
    · simp only [Bool.false_eq_true, if_false]
      cases hwj : (fl2At hvl ops j).wr
      · simp only [Bool.false_eq_true, if_false]; rw [h1' hwj]; exact h1 hwi
      · simp only [if_true]
    · simp only [if_true]
      have hwj : (fl2At hvl ops j).wr = false := by
        cases hw : (fl2At hvl ops j).wr
        · rfl
        · have := fl2At_wr hvl ops j hw; rw [p4 hwi] at this; cases this
      exact h1' hwj
  · rw [mix_drop h0 hm2, mix_drop h0' hb]
    cases hwi : (fl2At hvl ops i).nu
    · simp only [Bool.false_eq_true, if_false]
      cases hwj : (fl2At hvl ops j).nu
      · simp only [Bool.false_eq_true, if_false]; rw [hn' hwj]; exact h2 hwi
      · simp only [if_true]
    · simp only [if_true]
      exact hn' (p6 hwi)
  · show s2.live = if (fl2At hvl ops i).tk then s1.live else if (fl2At hvl ops j).tk then s2.live else σ.s.live
    cases hwi : (fl2At hvl ops i).tk
    · cases hwj : (fl2At hvl ops j).tk
      · rw [h2'' hwj]; exact h2' hwi
      · rfl
    · exact h2'' (p7 hwi)
theorem dOps_front {base : Nat} {hvl : List Nat} {N : Nat} {ops : List Oper} {x : Nat} {B : List Nat} {K : St → Prop} (hK : Closed K) : ∀ (A : List Nat) (σ : St), base ≤ σ.s.heap.length → (∀ a ∈ A, indep2 hvl ops a x = true) → dOps base hvl P tb N ops (A ++ x :: B) σ K → dOne base hvl P tb N ops x σ fun σ1 => dOps base hvl P tb N ops (A ++ B) σ1 K
  | [], σ, _, _, h => h
  | a :: A, σ, hb, hA, h => by
    have h1 : dOne base hvl P tb N ops a σ fun σ1 => dOne base hvl P tb N ops x σ1 fun σ2 => dOps base hvl P tb N ops (A ++ B) σ2 K :=
      dOne_mono hb (fun τ hb' hτ => dOps_front hK A τ hb' (fun b hb => hA b (by simp [hb])) hτ) h
    exact dOne_swap (hA a (by simp)) hb (dOps_eqv hK (A ++ B)) h1
/-- Every two operations are in order, or apart. -/
def lexOk2 (hvl : List Nat) (ops : List Oper) : Bool :=
  let an := ancsGo ops []
  (List.range ops.length).all fun i => match ops[i]? with
    | some o => o.after.toList.all (fun e => !Region.binds .any e || decide (e.on < i)) && (List.range i).all fun a => (an.getD i []).contains a || indep2 hvl ops a i
    | none => true
theorem lexOk2_spec {hvl : List Nat} {ops : List Oper} (h : lexOk2 hvl ops = true) {i : Nat} {o : Oper} (ho : ops[i]? = some o) : (∀ e ∈ o.after, Region.binds .any e = true → e.on < i) ∧
    ∀ a, a < i → Reach ops a i ∨ indep2 hvl ops a i = true := by
  unfold lexOk2 at h
  rw [List.all_eq_true] at h
  have := h i (List.mem_range.2 (List.getElem?_eq_some_iff.1 ho).1)
  simp only [ho, Bool.and_eq_true, List.all_eq_true, Bool.or_eq_true, List.mem_range, List.contains_iff_mem] at this
  obtain ⟨h1, h2⟩ := this
  refine ⟨fun e he hb => ?_, fun a ha => ?_⟩
  · have := h1 e (by simpa using he)
    simpa [hb] using this
  · rcases h2 a ha with h | h
    · cases hq : (ancsGo ops [])[i]? with
      | none => simp [List.getD, hq] at h
      | some l =>
        simp [List.getD, hq] at h
        exact .inl (ancsGo_spec ops [] [] rfl rfl (fun i l a h => by simp at h) i l a hq h)
    · exact .inr h
theorem dny_sound (hT : TblOk P tb) {rd : Option Nat} {base : Nat} {hvl : List Nat} {N : Nat} {ops : List Oper} (hl : lexOk2 hvl ops = true) {Q : Exit → Act → World → Prop} {K : St → Prop} (hK : Closed K) {B : Nat × Nat} {G0 : Gh} {w0 : World} {ds : List Deferred} (hQ : ∀ a w G σ, Ex B G0 w0 G w → Rel N G σ a w → a.defers = ds → K σ → Q .normal a w) :
    ∀ (fuel : Nat) (listed : Array Bool) (σ : St) (a : Act) (w : World) (G : Gh), listed.size = ops.length → Down ops listed → ((List.range ops.length).filter fun i => !listed.getD i true).length = fuel → Ex B G0 w0 G w → Rel N G σ a w → a.defers = ds → base ≤ σ.s.heap.length →
      dOps base hvl P tb N ops ((List.range ops.length).filter fun i => !listed.getD i true) σ K → wpAnyIn (FW rd) 0 P .any ops.toArray Q fuel listed a w
  | 0, listed, σ, a, w, G, hs, hdn, hf, hE, hR, hd, hbs, h => by
    have hnil := List.eq_nil_of_length_eq_zero hf
    rw [hnil] at h
    refine ⟨?_, hQ a w G σ hE hR hd h⟩
    apply List.eq_nil_iff_forall_not_mem.2
    intro i hi
    obtain ⟨h1, o, ho, -⟩ := mem_ready.1 hi
    have : i ∈ (List.range ops.length).filter fun i => !listed.getD i true := by
      rw [List.mem_filter, List.mem_range]
      exact ⟨by have := (Array.getElem?_eq_some_iff.1 ho).1; simpa using this, by rw [h1]; rfl⟩
    rw [hnil] at this
    cases this
  | fuel + 1, listed, σ, a, w, G, hs, hdn, hf, hE, hR, hd, hbs, h => by
    refine ⟨fun hr => ?_, fun i hi => ?_⟩
    · exfalso
      generalize hL : ((List.range ops.length).filter fun i => !listed.getD i true) = L at hf
      cases L with
      | nil => simp at hf
      | cons x r =>
        have hx : x ∈ (List.range ops.length).filter fun i => !listed.getD i true := by rw [hL]; simp
        rw [List.mem_filter, List.mem_range] at hx
        obtain ⟨hx1, hx2⟩ := hx
        have ho : ops[x]? = some ops[x] := List.getElem?_eq_getElem hx1
        have hmem : x ∈ Region.ready .any ops.toArray listed := by
          refine mem_ready.2 ⟨by simpa using hx2, ops[x], by simp, fun e he hb => ?_⟩
          have hlt := (lexOk2_spec hl ho).1 e he hb
          cases hg : listed.getD e.on false
          · exfalso
            have hmm : e.on ∈ (List.range ops.length).filter fun i => !listed.getD i true := by
              rw [List.mem_filter, List.mem_range]
              refine ⟨by omega, ?_⟩
              have hlt2 : e.on < listed.size := by omega
              simp only [Array.getD_eq_getD_getElem?, Array.getElem?_eq_getElem hlt2, Option.getD_some] at hg ⊢
              simp [hg]
            have hsorted : ((List.range ops.length).filter fun i => !listed.getD i true).Pairwise (· < ·) := List.Pairwise.filter _ List.pairwise_lt_range
            rw [hL] at hmm hsorted
            rcases List.mem_cons.1 hmm with h0 | h0
            · omega
            · have := List.rel_of_pairwise_cons hsorted h0; omega
          · rfl
        rw [hr] at hmem
        cases hmem
    · obtain ⟨h1, o, ho, hp⟩ := mem_ready.1 hi
      have ho' : ops[i]? = some o := by simpa using ho
      have hil : i < ops.length := (List.getElem?_eq_some_iff.1 ho').1
      have him : i ∈ (List.range ops.length).filter fun i => !listed.getD i true := by
        rw [List.mem_filter, List.mem_range]; exact ⟨hil, by rw [h1]; rfl⟩
      have hsorted : ((List.range ops.length).filter fun i => !listed.getD i true).Pairwise (· < ·) := List.Pairwise.filter _ List.pairwise_lt_range
      obtain ⟨A, B, hAB⟩ := List.append_of_mem him
      have hA : ∀ x ∈ A, x < i ∧ listed.getD x true = false := fun x hx => by
        refine ⟨?_, ?_⟩
        · rw [hAB] at hsorted
          exact (List.pairwise_append.1 hsorted).2.2 x hx i (by simp)
        · have : x ∈ (List.range ops.length).filter fun i => !listed.getD i true := by rw [hAB]; simp [hx]
          rw [List.mem_filter] at this
          simpa using this.2
      rw [hAB] at h
      have hfront := dOps_front hK A σ hbs (fun x hx => by
        obtain ⟨hx1, hx2⟩ := hA x hx
        rcases (lexOk2_spec hl ho').2 x hx1 with hre | h0
        · have := hdn.reach hs hre fun o2 ho2 e he hb => by
            rw [ho'] at ho2
            cases ho2
            exact hp e he hb
          have hlt2 : x < listed.size := by omega
          simp only [Array.getD_eq_getD_getElem?, Array.getElem?_eq_getElem hlt2, Option.getD_some] at this hx2
          rw [this] at hx2; cases hx2
        · exact h0) h
      have hnew : ((List.range ops.length).filter fun k => !(listed.setIfInBounds i true).getD k true) = A ++ B := by
        have e1 : ((List.range ops.length).filter fun k => !(listed.setIfInBounds i true).getD k true) = ((List.range ops.length).filter fun k => !listed.getD k true).filter fun k => k != i := by
          rw [List.filter_filter]
          apply List.filter_congr
          intro k hk
          by_cases hki : k = i
          · subst hki
            have hks : k < listed.size := by omega
            simp [Array.getD_eq_getD_getElem?, hks]
          · rw [getD_set_ne true (fun e => hki e.symm)]
            simp [hki]
        rw [e1, hAB]
        have hnd : (A ++ i :: B).Nodup := by
          rw [← hAB]; exact List.Pairwise.filter _ List.nodup_range
        rw [List.nodup_append] at hnd
        obtain ⟨n1, n2, n3⟩ := hnd
        rw [List.nodup_cons] at n2
        rw [List.filter_append, List.filter_cons]
        simp only [bne_self_eq_false, Bool.false_eq_true, if_false]
        congr 1
        · exact List.filter_eq_self.2 fun x hx => by
            have := n3 x hx i (by simp)
            simpa using this
        · exact List.filter_eq_self.2 fun x hx => by
            have : x ≠ i := fun e => n2.1 (e ▸ hx)
            simpa using this
      refine bOne_sound hT hR (dOne_b hbs (dOne_mono hbs (K' := fun τ => base ≤ τ.s.heap.length ∧ dOps base hvl P tb N ops (A ++ B) τ K) (fun τ h1 h2 => ⟨h1, h2⟩) hfront)) fun a' w' G' σ' s1 r1 d1 k1 => ?_
      have hdn' : Down ops (listed.setIfInBounds i true) := fun k o2 ho2 hk e he hb => by
        refine getD_set_true ?_
        by_cases hki : k = i
        · subst hki
          rw [ho'] at ho2
          cases ho2
          exact hp e he hb
        · rw [getD_set_ne true (fun e => hki e.symm)] at hk
          exact hdn k o2 ho2 hk e he hb
      refine dny_sound hT hl hK hQ fuel _ σ' a' w' G' (by simp [hs]) hdn' ?_ (hE.trans (s1.ex _)) r1 (d1.trans hd) k1.1 ?_
      · rw [hnew]
        rw [hAB] at hf
        simp at hf ⊢; omega
      · rw [hnew]; exact k1.2
theorem CallOK.fd {base : Nat} {f : FuncId} {args : List D} {hs hs' : List (List D)} {r : D} {lv' : List Nat} (k : CallOK P f args ⟨hs, []⟩ r ⟨hs', lv'⟩) (e : hs' = hs) (e2 : lv' = []) (I : List Nat) {H : List (List D)} {L : List Nat} (c : frameOk I [] base 0 args hs hs' lv' r = true)
    (eH : I.map (H.getD · []) = hs.map fun cs => cs.map (D.ren I [])) : CallD base P f (args.map (D.ren I [])) ⟨H, L⟩ (r.ren I []) ⟨H, L⟩ := by
  subst e; subst e2
  refine ⟨rfl, fun heap live hb he => ?_⟩
  unfold frameOk at c
  simp only [Bool.and_eq_true] at c
  obtain ⟨⟨⟨⟨⟨⟨⟨⟨⟨c1, c2⟩, c3⟩, c4⟩, c5⟩, c6⟩, c7⟩, c8⟩, c9⟩, c10⟩ := c
  have hlt := all_blt c3
  have nI := nodupB_spec I c1
  have eq : ∀ i ∈ I, heap[i]? = H[i]? := fun i hi => by rw [takeGetE _ (hlt i hi), he, ← takeGetE _ (hlt i hi)]
  have eH' : I.map (heap.getD · []) = hs'.map fun cs => cs.map (D.ren I []) := by
    rw [← eH]
    refine List.map_congr_left fun i hi => ?_
    simp only [List.getD, eq i hi]
  have hlen : hs'.length = I.length := by simpa using c5
  have := k.frame I [] (H := heap) (L := live) nI List.nodup_nil (fun i hi => Nat.lt_of_lt_of_le (hlt i hi) hb) (fun j hj => by cases hj) eH' rfl hlen (Nat.le_refl _) c7 c8 c9 c10
  have em : moreJ [] live.length ([] : List Nat).length = [] := rfl
  rw [em] at this
  have el : updL live [] ([] : List Nat) ++ ([] : List Nat).drop ([] : List Nat).length = live := by simp [updL]
  rw [el] at this
  rw [updL_same I _ heap nI fun k i n hk hn => ?_] at this
  · exact this
  · have hi : i < heap.length := Nat.lt_of_lt_of_le (hlt i (List.mem_of_getElem? hk)) hb
    have g := congrArg (·[k]?) eH'
    simp only [List.getElem?_map, hk, Option.map_some] at g
    rw [List.getElem?_map] at hn
    rw [hn] at g
    rw [getSome hi []]
    exact g
theorem updL_at {α : Type} {base : Nat} : ∀ (I : List Nat) (N H H' : List α), (∀ i ∈ I, base ≤ i) → H'.drop base = H.drop base → (updL H' I N).take base = H'.take base ∧ (updL H' I N).drop base = (updL H I N).drop base
  | [], N, H, H', _, h => by cases N <;> exact ⟨rfl, h⟩
  | i :: I, [], H, H', _, h => ⟨rfl, h⟩
  | i :: I, n :: N, H, H', hI, h => by
    have h0 := hI i (by simp)
    have := updL_at I N (H.set i n) (H'.set i n) (fun k hk => hI k (by simp [hk])) (by rw [(setDrop _ _ h0).2, (setDrop _ _ h0).2, h])
    exact ⟨this.1.trans (setDrop _ _ h0).1, this.2⟩
theorem CallOK.ff {base : Nat} {f : FuncId} {args : List D} {hs hs' : List (List D)} {lv lv' : List Nat} {r : D} (k : CallOK P f args ⟨hs, lv⟩ r ⟨hs', lv'⟩) (I J : List Nat) {H : List (List D)} {L : List Nat} (c : frameOk I J H.length L.length args hs hs' lv' r = true)
    (eH : I.map (H.getD · []) = hs.map fun cs => cs.map (D.ren I J)) (eL : J.map (L.getD · 0) = lv) (hI : I.all (Nat.ble base ·) = true) (hb : base ≤ H.length) :
    CallF base P f (args.map (D.ren I J)) ⟨H, L⟩ (r.ren I (moreJ J L.length lv'.length)) ⟨updL H I (hs'.map fun cs => cs.map (D.ren I (moreJ J L.length lv'.length))), updL L J lv' ++ lv'.drop J.length⟩ := by
  have hI' : ∀ i ∈ I, base ≤ i := fun i hi => Nat.le_of_ble_eq_true (List.all_eq_true.1 hI i hi)
  refine ⟨by simp only [updL_len]; exact hb, (updL_at I _ H H hI' rfl).1, fun heap hl he => ?_⟩
  have hlen : heap.length = H.length := by
    have := congrArg List.length he
    simp only [List.length_drop] at this
    omega
  have eq : ∀ i ∈ I, heap[i]? = H[i]? := fun i hi => by rw [dropGet _ (hI' i hi), he, ← dropGet _ (hI' i hi)]
  have eH' : I.map (heap.getD · []) = hs.map fun cs => cs.map (D.ren I J) := by
    rw [← eH]
    refine List.map_congr_left fun i hi => ?_
    simp only [List.getD, eq i hi]
  have := k.fr I J (H := heap) (L := L) (by rw [hlen]; exact c) eH' eL
  obtain ⟨u1, u2⟩ := updL_at I (hs'.map fun cs => cs.map (D.ren I (moreJ J L.length lv'.length))) H heap hI' he
  rw [← List.take_append_drop base (updL heap I _), u1, u2] at this
  exact this
theorem CallF.weakC {base : Nat} {f : FuncId} {args args' : List D} {s : S} {r : D} {s' : S} (k : CallF base P f args' s r s') (hl : args'.length = args.length) (h : ∀ (j : Nat) d', args'[j]? = some d' → ∃ d, args[j]? = some d ∧ LeD d d') : CallF base P f args s r s' :=
  ⟨k.len, k.eq, fun heap h1 h2 => (k.ok heap h1 h2).weak hl.symm h⟩
theorem PCall.d {base : Nat} {f : FuncId} {xs : List V} {r : D} {s : S} (h : PCall P f xs r) : CallD base P f (xs.map .p) s r s := ⟨rfl, fun _ _ _ _ => h.ok _⟩
end
end Go.Proofs.Ytlhjieapkcnghaa
