/- The abstract layer, part 12: regions that draw their order. -/
import Derived.Test.YtlhjieapkcnghaaAbX
namespace Go.Proofs.Ytlhjieapkcnghaa
open Go.RowKit

section
variable {P : Program} {tb : Tbl}
/-! ### operands -/
theorem evs_congr {e e' : Operand → Option D} : ∀ (l : List Operand), (∀ x ∈ l, e x = e' x) → evs e l = evs e' l
  | [], _ => rfl
  | x :: r, h => by
    have h1 := h x (by simp)
    have h2 := evs_congr r fun y hy => h y (by simp [hy])
    simp only [evs, h1, h2]
theorem evps_congr {e e' : Operand → Option D} : ∀ (l : List (Nat × Operand)), (∀ x ∈ l, e x.2 = e' x.2) → evps e l = evps e' l
  | [], _ => rfl
  | (i, x) :: r, h => by
    have h1 := h (i, x) (by simp)
    have h2 := evps_congr r fun y hy => h y (by simp [hy])
    simp only at h1
    simp only [evps, h1, h2]
theorem evo_congr {e e' : Operand → Option D} (x : Option Operand) (h : ∀ y ∈ x, e y = e' y) : evo e x = evo e' x := by
  cases x with
  | none => rfl
  | some x => simp only [evo, h x (by simp)]
theorem aStep_congr {gn : Bool} (o : Op) {e e' : Operand → Option D} (h : ∀ x ∈ o.operands.toList, e x = e' x) (s : S) (K : D → S → Prop) : aStep gn P tb o e s K = aStep gn P tb o e' s K := by
  cases o with
  | call c =>
    cases hc : c.callee with
    | value f =>
      have h1 : e f = e' f := h f (by simp [Op.operands, Call.operands, hc])
      have h2 := evs_congr (e := e) (e' := e') c.args.toList fun x hx => h x (by simp [Op.operands, Call.operands, hc]; exact .inr (by simpa using hx))
      simp only [aStep, isCall, hc, aCall, h1, h2]
    | invoke r m => simp only [aStep, isCall, hc, aOp]
    | builtin b =>
      have h2 := evs_congr (e := e) (e' := e') c.args.toList fun x hx => h x (by simp [Op.operands, Call.operands, hc]; simpa using hx)
      simp only [aStep, isCall, hc, aOp, h2]
  | build t ps =>
    have h2 := evps_congr (e := e) (e' := e') ps.toList fun x hx => h x.2 (by simp [Op.operands]; exact ⟨x.1, by simpa using hx⟩)
    simp only [aStep, isCall, aOp, h2]
  | buildSlice t n ps =>
    have h2 := evps_congr (e := e) (e' := e') ps.toList fun x hx => h x.2 (by simp [Op.operands]; exact ⟨x.1, by simpa using hx⟩)
    simp only [aStep, isCall, aOp, h2]
  | makeFunc f xs ys =>
    have h1 := evs_congr (e := e) (e' := e') xs.toList fun x hx => h x (by simp [Op.operands]; exact .inl (by simpa using hx))
    have h2 := evs_congr (e := e) (e' := e') ys.toList fun x hx => h x (by simp [Op.operands]; exact .inr (by simpa using hx))
    simp only [aStep, isCall, aOp, h1, h2]
  | slice t x lo hi mx =>
    have h1 := h x (by simp [Op.operands])
    have h2 := evo_congr (e := e) (e' := e') lo fun y hy => h y (by simp [Op.operands]; exact .inr (.inl (by simpa using hy)))
    have h3 := evo_congr (e := e) (e' := e') hi fun y hy => h y (by simp [Op.operands]; exact .inr (.inr (.inl (by simpa using hy))))
    cases mx <;> simp only [aStep, isCall, aOp, h1, h2, h3]
  | pick c x y =>
    have h1 := h c (by simp [Op.operands])
    have h2 := h x (by simp [Op.operands])
    have h3 := h y (by simp [Op.operands])
    simp only [aStep, isCall, aOp, h1, h2, h3]
  | move x => simp only [aStep, isCall, aOp, h x (by simp [Op.operands])]
  | assign x => simp only [aStep, isCall, aOp, h x (by simp [Op.operands])]
  | box t x => simp only [aStep, isCall, aOp, h x (by simp [Op.operands])]
  | load t x => simp only [aStep, isCall, aOp, h x (by simp [Op.operands])]
  | makeSlice t x y => simp only [aStep, isCall, aOp, h x (by simp [Op.operands]), h y (by simp [Op.operands])]
  | nilCheck x => simp only [aStep, isCall, aOp, h x (by simp [Op.operands])]
  | unOp op t x => simp only [aStep, isCall, aOp, h x (by simp [Op.operands])]
  | convert a b x => simp only [aStep, isCall, aOp, h x (by simp [Op.operands])]
  | fieldAddr a x f => simp only [aStep, isCall, aOp, h x (by simp [Op.operands])]
  | field a x f => simp only [aStep, isCall, aOp, h x (by simp [Op.operands])]
  | extract x i => simp only [aStep, isCall, aOp, h x (by simp [Op.operands])]
  | store t x y => simp only [aStep, isCall, aOp, h x (by simp [Op.operands]), h y (by simp [Op.operands])]
  | binOp op t x y t' => simp only [aStep, isCall, aOp, h x (by simp [Op.operands]), h y (by simp [Op.operands])]
  | indexAddr t x y => simp only [aStep, isCall, aOp, h x (by simp [Op.operands]), h y (by simp [Op.operands])]
  | index t x y => simp only [aStep, isCall, aOp, h x (by simp [Op.operands]), h y (by simp [Op.operands])]
  | alloc t => simp only [aStep, isCall, aOp]
  | _ => simp only [aStep, isCall, aOp]

/-! ### a step as a relation -/
/-- Slots read alike, memory alike. -/
def Eqv (σ τ : St) : Prop := (∀ t, σ.env.lookup t = τ.env.lookup t) ∧ σ.s = τ.s
theorem Eqv.refl (σ : St) : Eqv σ σ := ⟨fun _ => rfl, rfl⟩
theorem Eqv.trans {σ τ υ : St} (h : Eqv σ τ) (k : Eqv τ υ) : Eqv σ υ := ⟨fun t => (h.1 t).trans (k.1 t), h.2.trans k.2⟩
theorem Eqv.symm {σ τ : St} (h : Eqv σ τ) : Eqv τ σ := ⟨fun t => (h.1 t).symm, h.2.symm⟩
def dstOf (ops : List Oper) (i : Nat) : Option Nat := (ops[i]?).bind (·.dst)
def looks (ops : List Oper) (o : Oper) : List Nat :=
  (o.op.operands.toList.filterMap fun | .tmp t => some t | _ => none) ++ (match o.guard with | some (j, _) => (dstOf ops j).toList | none => [])
def fset (dst : Option Nat) (d : D) (env : Env) : Env := match dst with | some t => (t, d) :: env | none => env
theorem fset_look (dst : Option Nat) (d : D) (env : Env) (t : Nat) : (fset dst d env).lookup t = if dst = some t then some d else env.lookup t := by
  unfold fset
  split
  · rename_i t'
    rw [List.lookup_cons]
    by_cases h : t' = t
    · subst h; simp
    · have hb : (t == t') = false := by simpa using fun e => h e.symm
      have hne : ¬ (some t' = some t) := fun e => h (Option.some.inj e)
      rw [hb, if_neg hne]
  · simp
theorem putE_iff {N : Nat} {env : Env} {dst : Option Nat} {d : D} {k : Env → Prop} : putE N env dst d k ↔ (∀ t, dst = some t → t < N) ∧ k (fset dst d env) := by
  unfold putE fset
  cases dst with
  | none => simp
  | some t =>
    by_cases h : t < N
    · simp [h]
    · simp [h]
/-- The value that is put, behind the parting on a truth. -/
theorem splitB_det {g : Bool} {d : D} {k : D → Prop} (h : splitB g d k) : k d ∧ ∀ k' : D → Prop, k' d → splitB g d k' := by
  refine ⟨splitB_elim h, fun k' hk => ?_⟩
  unfold splitB
  split
  · rename_i b
    cases b
    · exact ⟨(fun h => by cases h), fun _ => hk⟩
    · exact ⟨fun _ => hk, (fun h => by cases h)⟩
  · exact hk
theorem aWant_congr {ops : List Oper} {o : Oper} {env env' : Env} (h : ∀ t ∈ looks ops o, env.lookup t = env'.lookup t) : aWant ops env o.guard = aWant ops env' o.guard := by
  unfold aWant
  split
  · rfl
  · rename_i j want hg
    split
    · rename_i t ht
      have : t ∈ looks ops o := by
        unfold looks
        rw [hg]
        simp only [List.mem_append]
        exact .inr (by simp [dstOf, ht])
      rw [h t this]
    · rfl
theorem ev_congr {ops : List Oper} {o : Oper} {env env' : Env} (h : ∀ t ∈ looks ops o, env.lookup t = env'.lookup t) : ∀ x ∈ o.op.operands.toList, ev env x = ev env' x := by
  intro x hx
  cases x with
  | tmp t =>
    refine h t ?_
    unfold looks
    simp only [List.mem_append, List.mem_filterMap]
    exact .inl ⟨.tmp t, hx, rfl⟩
  | _ => rfl
def flagsAt (ops : List Oper) (i : Nat) : Fl := match ops[i]? with | some o => flags o.op | none => ⟨false, false, false⟩
def looksAt (ops : List Oper) (i : Nat) : List Nat := match ops[i]? with | some o => looks ops o | none => []
theorem flags_wr (o : Op) (h : (flags o).wr = true) : (flags o).rd = true := by
  revert h
  unfold flags
  split
  · intro; rfl
  · intro; rfl
  · intro; rfl
  · intro; rfl
  · split
    · intro h; cases h
    · intro h; cases h
    · intro h; cases h
  · intro h; cases h
theorem flagsAt_wr (ops : List Oper) (i : Nat) (h : (flagsAt ops i).wr = true) : (flagsAt ops i).rd = true := by
  unfold flagsAt at h ⊢
  split
  · rename_i o ho; simp only [ho] at h; exact flags_wr _ h
  · rename_i ho; simp only [ho] at h; cases h
theorem memIf {b : Bool} {α : Type} {x y z : α} (h1 : b = false → x = y) (h2 : b = true → z = x) (h3 : b = false → z = y) : z = x := by
  cases b
  · rw [h3 rfl, h1 rfl]
  · exact h2 rfl
/-! ### two steps that change places -/
def indep (ops : List Oper) (i j : Nat) : Bool :=
  (match dstOf ops i with | some t => !(looksAt ops j).contains t | none => true) && (match dstOf ops j with | some t => !(looksAt ops i).contains t | none => true) &&
  (match dstOf ops i, dstOf ops j with | some t, some t' => !(t == t') | _, _ => true) &&
  !((flagsAt ops i).wr && (flagsAt ops j).rd) && !((flagsAt ops j).wr && (flagsAt ops i).rd) && !((flagsAt ops i).tk && (flagsAt ops j).tk)
def Closed (K : St → Prop) : Prop := ∀ σ τ, Eqv σ τ → K σ → K τ
theorem S.ext' {a b : S} (h1 : a.heap = b.heap) (h2 : a.live = b.live) : a = b := by cases a; cases b; simp_all
theorem indep_spec {ops : List Oper} {i j : Nat} (h : indep ops i j = true) : (∀ t, dstOf ops i = some t → t ∉ looksAt ops j) ∧ (∀ t, dstOf ops j = some t → t ∉ looksAt ops i) ∧ (∀ t, dstOf ops i = some t → dstOf ops j ≠ some t) ∧
    ((flagsAt ops i).wr = true → (flagsAt ops j).rd = false) ∧ ((flagsAt ops j).wr = true → (flagsAt ops i).rd = false) ∧ ((flagsAt ops i).tk = true → (flagsAt ops j).tk = false) := by
  simp only [indep, Bool.and_eq_true] at h
  obtain ⟨⟨⟨⟨⟨h1, h2⟩, h3⟩, h4⟩, h5⟩, h6⟩ := h
  refine ⟨fun t ht => ?_, fun t ht => ?_, fun t ht ht' => ?_, fun e => ?_, fun e => ?_, fun e => ?_⟩
  · rw [ht] at h1; simpa using h1
  · rw [ht] at h2; simpa using h2
  · rw [ht, ht'] at h3; simp at h3
  · simpa [e] using h4
  · simpa [e] using h5
  · simpa [e] using h6
/-- What the edges order ahead of what. -/
inductive Reach (ops : List Oper) : Nat → Nat → Prop where
  | one {i : Nat} {o : Oper} {e : Edge} : ops[i]? = some o → e ∈ o.after → Region.binds .any e = true → Reach ops e.on i
  | trans {a p i : Nat} : Reach ops a p → Reach ops p i → Reach ops a i
def ancsGo : List Oper → List (List Nat) → List (List Nat)
  | [], acc => acc
  | o :: r, acc => ancsGo r (acc ++ [((((o.after.toList.filter (Region.binds .any)).map (·.on)) ++ ((o.after.toList.filter (Region.binds .any)).map (·.on)).flatMap fun p => acc.getD p []).eraseDups)])
theorem ancsGo_spec {ops : List Oper} : ∀ (r pre : List Oper) (acc : List (List Nat)), ops = pre ++ r → acc.length = pre.length → (∀ i l a, acc[i]? = some l → a ∈ l → Reach ops a i) → ∀ i l a, (ancsGo r acc)[i]? = some l → a ∈ l → Reach ops a i
  | [], _, acc, _, _, h => h
  | o :: r, pre, acc, hp, hl, h => by
    refine ancsGo_spec r (pre ++ [o]) _ (by rw [hp, List.append_assoc]; rfl) (by simp [hl]) fun i l a hi ha => ?_
    by_cases hlt : i < acc.length
    · rw [List.getElem?_append_left hlt] at hi
      exact h i l a hi ha
    · have hi2 : i = acc.length := by have := (List.getElem?_eq_some_iff.1 hi).1; simp at this; omega
      subst hi2
      rw [List.getElem?_concat_length] at hi
      cases hi
      have ho : ops[acc.length]? = some o := by rw [hp, hl, List.getElem?_append_right (Nat.le_refl _), Nat.sub_self]; rfl
      have hone : ∀ p, p ∈ (o.after.toList.filter (Region.binds .any)).map (·.on) → Reach ops p acc.length := fun p hpm => by
        obtain ⟨e, he, rfl⟩ := List.mem_map.1 hpm
        rw [List.mem_filter] at he
        exact .one ho (by simpa using he.1) he.2
      rw [List.mem_eraseDups, List.mem_append] at ha
      rcases ha with ha | ha
      · exact hone a ha
      · obtain ⟨p, hpm, hap⟩ := List.mem_flatMap.1 ha
        refine .trans (h p (acc.getD p []) a ?_ hap) (hone p hpm)
        cases hq : acc[p]? with
        | none => simp [List.getD, hq] at hap
        | some l => simp [List.getD, hq]
/-- Every two operations are in order, or apart. -/
def lexOk (ops : List Oper) : Bool :=
  let an := ancsGo ops []
  (List.range ops.length).all fun i => match ops[i]? with
    | some o => o.after.toList.all (fun e => !Region.binds .any e || decide (e.on < i)) && (List.range i).all fun a => (an.getD i []).contains a || indep ops a i
    | none => true
theorem lexOk_spec {ops : List Oper} (h : lexOk ops = true) {i : Nat} {o : Oper} (ho : ops[i]? = some o) : (∀ e ∈ o.after, Region.binds .any e = true → e.on < i) ∧
    ∀ a, a < i → Reach ops a i ∨ indep ops a i = true := by
  unfold lexOk at h
  rw [List.all_eq_true] at h
  have := h i (List.mem_range.2 (List.getElem?_eq_some_iff.1 ho).1)
  simp only [ho, Bool.and_eq_true, List.all_eq_true, Bool.or_eq_true, List.mem_range, List.contains_iff_mem] at this
  obtain ⟨h1, h2⟩ := this
  refine ⟨fun e he hb => ?_, fun a ha => ?_⟩
  · have := h1 e (by simpa using he)
    simpa [hb] using this
  · rcases h2 a ha with h | h
    · cases hq : (ancsGo ops [])[i]? with
      | none => simp [List.getD, hq] at h
      | some l =>
        simp [List.getD, hq] at h
        exact .inl (ancsGo_spec ops [] [] rfl rfl (fun i l a h => by simp at h) i l a hq h)
    · exact .inr h
/-- What is listed has all that is ahead of it listed. -/
def Down (ops : List Oper) (listed : Array Bool) : Prop := ∀ i o, ops[i]? = some o → listed.getD i true = true → ∀ e ∈ o.after, Region.binds .any e = true → listed.getD e.on false = true
theorem Down.reach {ops : List Oper} {listed : Array Bool} (hs : listed.size = ops.length) (hd : Down ops listed) {a i : Nat} (h : Reach ops a i) : (∀ o, ops[i]? = some o → (∀ e ∈ o.after, Region.binds .any e = true → listed.getD e.on false = true)) → listed.getD a false = true := by
  induction h with
  | one ho he hb => exact fun k => k _ ho _ he hb
  | @trans a p i h1 h2 ih1 ih2 =>
    intro k
    have hp := ih2 k
    refine ih1 fun o ho e he hb => hd p o ho ?_ e he hb
    have hlt : p < listed.size := by rw [hs]; exact (List.getElem?_eq_some_iff.1 ho).1
    simp only [Array.getD_eq_getD_getElem?, Array.getElem?_eq_getElem hlt, Option.getD_some] at hp ⊢
    exact hp
end
end Go.Proofs.Ytlhjieapkcnghaa
