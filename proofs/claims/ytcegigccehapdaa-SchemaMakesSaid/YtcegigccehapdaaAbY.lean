/- The abstract layer, part 12: regions that draw their order. -/
import Derived.Test.YtcegigccehapdaaAbX
namespace Go.Proofs.Ytcegigccehapdaa
open Go.RowKit

section
variable {P : Program} {tb : Tbl}
/-! ### operands -/
theorem evs_congr {e e' : Operand → Option D} : ∀ (l : List Operand), (∀ x ∈ l, e x = e' x) → evs e l = evs e' l
  | [], _ => rfl
  | x :: r, h => by
    have h1 := h x (by simp)
    have h2 := evs_congr r fun y hy => h y (by simp [hy])
    simp only [evs, h1, h2]
theorem evps_congr {e e' : Operand → Option D} : ∀ (l : List (Nat × Operand)), (∀ x ∈ l, e x.2 = e' x.2) → evps e l = evps e' l
  | [], _ => rfl
  | (i, x) :: r, h => by
    have h1 := h (i, x) (by simp)
    have h2 := evps_congr r fun y hy => h y (by simp [hy])
    simp only at h1
    simp only [evps, h1, h2]
theorem evo_congr {e e' : Operand → Option D} (x : Option Operand) (h : ∀ y ∈ x, e y = e' y) : evo e x = evo e' x := by
  cases x with
  | none => rfl
  | some x => simp only [evo, h x (by simp)]
theorem aStep_congr {gn : Bool} (o : Op) {e e' : Operand → Option D} (h : ∀ x ∈ o.operands.toList, e x = e' x) (s : S) (K : D → S → Prop) : aStep gn P tb o e s K = aStep gn P tb o e' s K := by
  cases o with
  | call c =>
    cases hc : c.callee with
    | value f =>
      have h1 : e f = e' f := h f (by simp [Op.operands, Call.operands, hc])
      have h2 := evs_congr (e := e) (e' := e') c.args.toList fun x hx => h x (by simp [Op.operands, Call.operands, hc]; exact .inr (by simpa using hx))
      simp only [aStep, isCall, hc, aCall, h1, h2]
    | invoke r m => simp only [aStep, isCall, hc, aOp]
    | builtin b =>
      have h2 := evs_congr (e := e) (e' := e') c.args.toList fun x hx => h x (by simp [Op.operands, Call.operands, hc]; simpa using hx)
      simp only [aStep, isCall, hc, aOp, h2]
  | build t ps =>
    have h2 := evps_congr (e := e) (e' := e') ps.toList fun x hx => h x.2 (by simp [Op.operands]; exact ⟨x.1, by simpa using hx⟩)
    simp only [aStep, isCall, aOp, h2]
  | buildSlice t n ps =>
    have h2 := evps_congr (e := e) (e' := e') ps.toList fun x hx => h x.2 (by simp [Op.operands]; exact ⟨x.1, by simpa using hx⟩)
    simp only [aStep, isCall, aOp, h2]
  | makeFunc f xs ys =>
    have h1 := evs_congr (e := e) (e' := e') xs.toList fun x hx => h x (by simp [Op.operands]; exact .inl (by simpa using hx))
    have h2 := evs_congr (e := e) (e' := e') ys.toList fun x hx => h x (by simp [Op.operands]; exact .inr (by simpa using hx))
    simp only [aStep, isCall, aOp, h1, h2]
  | slice t x lo hi mx =>
    have h1 := h x (by simp [Op.operands])
    have h2 := evo_congr (e := e) (e' := e') lo fun y hy => h y (by simp [Op.operands]; exact .inr (.inl (by simpa using hy)))
    have h3 := evo_congr (e := e) (e' := e') hi fun y hy => h y (by simp [Op.operands]; exact .inr (.inr (.inl (by simpa using hy))))
    cases mx <;> simp only [aStep, isCall, aOp, h1, h2, h3]
  | pick c x y =>
    have h1 := h c (by simp [Op.operands])
    have h2 := h x (by simp [Op.operands])
    have h3 := h y (by simp [Op.operands])
    simp only [aStep, isCall, aOp, h1, h2, h3]
  | move x => simp only [aStep, isCall, aOp, h x (by simp [Op.operands])]
  | assign x => simp only [aStep, isCall, aOp, h x (by simp [Op.operands])]
  | box t x => simp only [aStep, isCall, aOp, h x (by simp [Op.operands])]
  | load t x => simp only [aStep, isCall, aOp, h x (by simp [Op.operands])]
  | nilCheck x => simp only [aStep, isCall, aOp, h x (by simp [Op.operands])]
  | unOp op t x => simp only [aStep, isCall, aOp, h x (by simp [Op.operands])]
  | convert a b x => simp only [aStep, isCall, aOp, h x (by simp [Op.operands])]
  | fieldAddr a x f => simp only [aStep, isCall, aOp, h x (by simp [Op.operands])]
  | field a x f => simp only [aStep, isCall, aOp, h x (by simp [Op.operands])]
  | extract x i => simp only [aStep, isCall, aOp, h x (by simp [Op.operands])]
  | store t x y => simp only [aStep, isCall, aOp, h x (by simp [Op.operands]), h y (by simp [Op.operands])]
  | binOp op t x y t' => simp only [aStep, isCall, aOp, h x (by simp [Op.operands]), h y (by simp [Op.operands])]
  | indexAddr t x y => simp only [aStep, isCall, aOp, h x (by simp [Op.operands]), h y (by simp [Op.operands])]
  | index t x y => simp only [aStep, isCall, aOp, h x (by simp [Op.operands]), h y (by simp [Op.operands])]
  | alloc t => simp only [aStep, isCall, aOp]
  | _ => simp only [aStep, isCall, aOp]

/-! ### a step as a relation -/
/-- Slots read alike, memory alike. -/
def Eqv (σ τ : St) : Prop := (∀ t, σ.env.lookup t = τ.env.lookup t) ∧ σ.s = τ.s
theorem Eqv.refl (σ : St) : Eqv σ σ := ⟨fun _ => rfl, rfl⟩
theorem Eqv.trans {σ τ υ : St} (h : Eqv σ τ) (k : Eqv τ υ) : Eqv σ υ := ⟨fun t => (h.1 t).trans (k.1 t), h.2.trans k.2⟩
theorem Eqv.symm {σ τ : St} (h : Eqv σ τ) : Eqv τ σ := ⟨fun t => (h.1 t).symm, h.2.symm⟩
def dstOf (ops : List Oper) (i : Nat) : Option Nat := (ops[i]?).bind (·.dst)
def looks (ops : List Oper) (o : Oper) : List Nat :=
  (o.op.operands.toList.filterMap fun | .tmp t => some t | _ => none) ++ (match o.guard with | some (j, _) => (dstOf ops j).toList | none => [])
/-- What one operation does: d is put, memory becomes s1. -/
structure One (P : Program) (tb : Tbl) (N : Nat) (ops : List Oper) (i : Nat) (σ : St) (d : D) (s1 : S) : Prop where
  out : aOne false P tb N ops i σ fun τ => τ = ⟨match dstOf ops i with | some t => (t, d) :: σ.env | none => σ.env, s1⟩
def fset (dst : Option Nat) (d : D) (env : Env) : Env := match dst with | some t => (t, d) :: env | none => env
theorem fset_look (dst : Option Nat) (d : D) (env : Env) (t : Nat) : (fset dst d env).lookup t = if dst = some t then some d else env.lookup t := by
  unfold fset
  split
  · rename_i t'
    rw [List.lookup_cons]
    by_cases h : t' = t
    · subst h; simp
    · have hb : (t == t') = false := by simpa using fun e => h e.symm
      have hne : ¬ (some t' = some t) := fun e => h (Option.some.inj e)
      rw [hb, if_neg hne]
  · simp
theorem putE_iff {N : Nat} {env : Env} {dst : Option Nat} {d : D} {k : Env → Prop} : putE N env dst d k ↔ (∀ t, dst = some t → t < N) ∧ k (fset dst d env) := by
  unfold putE fset
  cases dst with
  | none => simp
  | some t =>
    by_cases h : t < N
    · simp [h]
    · simp [h]
/-- The value that is put, behind the parting on a truth. -/
theorem splitB_det {g : Bool} {d : D} {k : D → Prop} (h : splitB g d k) : k d ∧ ∀ k' : D → Prop, k' d → splitB g d k' := by
  refine ⟨splitB_elim h, fun k' hk => ?_⟩
  unfold splitB
  split
  · rename_i b
    cases b
    · exact ⟨(fun h => by cases h), fun _ => hk⟩
    · exact ⟨fun _ => hk, (fun h => by cases h)⟩
  · exact hk
theorem aWant_congr {ops : List Oper} {o : Oper} {env env' : Env} (h : ∀ t ∈ looks ops o, env.lookup t = env'.lookup t) : aWant ops env o.guard = aWant ops env' o.guard := by
  unfold aWant
  split
  · rfl
  · rename_i j want hg
    split
    · rename_i t ht
      have : t ∈ looks ops o := by
        unfold looks
        rw [hg]
        simp only [List.mem_append]
        exact .inr (by simp [dstOf, ht])
      rw [h t this]
    · rfl
theorem ev_congr {ops : List Oper} {o : Oper} {env env' : Env} (h : ∀ t ∈ looks ops o, env.lookup t = env'.lookup t) : ∀ x ∈ o.op.operands.toList, ev env x = ev env' x := by
  intro x hx
  cases x with
  | tmp t =>
    refine h t ?_
    unfold looks
    simp only [List.mem_append, List.mem_filterMap]
    exact .inl ⟨.tmp t, hx, rfl⟩
  | _ => rfl
def flagsAt (ops : List Oper) (i : Nat) : Fl := match ops[i]? with | some o => flags o.op | none => ⟨false, false, false⟩
def looksAt (ops : List Oper) (i : Nat) : List Nat := match ops[i]? with | some o => looks ops o | none => []
theorem flags_wr (o : Op) (h : (flags o).wr = true) : (flags o).rd = true := by
  revert h
  unfold flags
  split
  · intro; rfl
  · intro; rfl
  · intro; rfl
  · intro; rfl
  · split
    · intro h; cases h
    · intro h; cases h
    · intro h; cases h
  · intro h; cases h
/-- A step: what it puts and what memory becomes hang on just the slots that it looks at and the memory that its flags name. -/
theorem aOne_loc {N : Nat} {ops : List Oper} {i : Nat} {σ : St} {K : St → Prop} (h : aOne false P tb N ops i σ K) :
    ∃ d s1, K ⟨fset (dstOf ops i) d σ.env, s1⟩ ∧ ((flagsAt ops i).wr = false → s1.heap = σ.s.heap) ∧ ((flagsAt ops i).tk = false → s1.live = σ.s.live) ∧
      ∀ (τ : St) (K' : St → Prop), (∀ t ∈ looksAt ops i, σ.env.lookup t = τ.env.lookup t) → ((flagsAt ops i).rd = true → τ.s.heap = σ.s.heap) → ((flagsAt ops i).tk = true → τ.s.live = σ.s.live) →
        K' ⟨fset (dstOf ops i) d τ.env, ⟨if (flagsAt ops i).wr then s1.heap else τ.s.heap, if (flagsAt ops i).tk then s1.live else τ.s.live⟩⟩ → aOne false P tb N ops i τ K' := by
  unfold aOne at h ⊢
  cases ho : ops[i]? with
  | none =>
    simp only [ho] at h
    refine ⟨.undef, σ.s, ?_, fun _ => rfl, fun _ => rfl, fun τ K' _ _ _ hk => ?_⟩
    · simp only [dstOf, ho, Option.bind_none, fset]; exact h
    · simp only [dstOf, ho, Option.bind_none, fset, flagsAt] at hk ⊢; exact hk
  | some o =>
    have hd : dstOf ops i = o.dst := by simp [dstOf, ho]
    have hf : flagsAt ops i = flags o.op := by simp [flagsAt, ho]
    have hl : looksAt ops i = looks ops o := by simp [looksAt, ho]
    simp only [ho] at h ⊢
    rw [hd, hf, hl]
    split at h
    · rename_i hw
      obtain ⟨d, s1, hk, h1, h2, h3⟩ := aStep_loc (tb := tb) (P := P) o.op (ev σ.env) σ.s _ h
      obtain ⟨k1, k2⟩ := splitB_det hk
      obtain ⟨p1, p2⟩ := putE_iff.1 k1
      refine ⟨d, s1, p2, h1, h2, fun τ K' e1 e2 e3 hk' => ?_⟩
      rw [← aWant_congr e1, hw]
      simp only
      rw [aStep_congr o.op fun x hx => (ev_congr e1 x hx).symm]
      exact h3 τ.s _ e2 e3 (k2 _ (putE_iff.2 ⟨p1, hk'⟩))
    · rename_i hw
      obtain ⟨p1, p2⟩ := putE_iff.1 h
      refine ⟨.undef, σ.s, p2, fun _ => rfl, fun _ => rfl, fun τ K' e1 e2 e3 hk' => ?_⟩
      rw [← aWant_congr e1, hw]
      refine putE_iff.2 ⟨p1, ?_⟩
      have e : (⟨if (flags o.op).wr then σ.s.heap else τ.s.heap, if (flags o.op).tk then σ.s.live else τ.s.live⟩ : S) = τ.s := by
        have a1 : (if (flags o.op).wr then σ.s.heap else τ.s.heap) = τ.s.heap := by
          split
          · rename_i h; exact (e2 (flags_wr o.op h)).symm
          · rfl
        have a2 : (if (flags o.op).tk then σ.s.live else τ.s.live) = τ.s.live := by
          split
          · rename_i h; exact (e3 h).symm
          · rfl
        rw [a1, a2]
      rw [e] at hk'; exact hk'
    · exact h.elim

theorem flagsAt_wr (ops : List Oper) (i : Nat) (h : (flagsAt ops i).wr = true) : (flagsAt ops i).rd = true := by
  unfold flagsAt at h ⊢
  split
  · rename_i o ho; simp only [ho] at h; exact flags_wr _ h
  · rename_i ho; simp only [ho] at h; cases h
theorem memIf {b : Bool} {α : Type} {x y z : α} (h1 : b = false → x = y) (h2 : b = true → z = x) (h3 : b = false → z = y) : z = x := by
  cases b
  · rw [h3 rfl, h1 rfl]
  · exact h2 rfl
/-! ### two steps that change places -/
def indep (ops : List Oper) (i j : Nat) : Bool :=
  (match dstOf ops i with | some t => !(looksAt ops j).contains t | none => true) && (match dstOf ops j with | some t => !(looksAt ops i).contains t | none => true) &&
  (match dstOf ops i, dstOf ops j with | some t, some t' => !(t == t') | _, _ => true) &&
  !((flagsAt ops i).wr && (flagsAt ops j).rd) && !((flagsAt ops j).wr && (flagsAt ops i).rd) && !((flagsAt ops i).tk && (flagsAt ops j).tk)
def Closed (K : St → Prop) : Prop := ∀ σ τ, Eqv σ τ → K σ → K τ
theorem S.ext' {a b : S} (h1 : a.heap = b.heap) (h2 : a.live = b.live) : a = b := by cases a; cases b; simp_all
theorem aOne_mono {N : Nat} {ops : List Oper} {i : Nat} {σ : St} {K K' : St → Prop} (hK : ∀ τ, K τ → K' τ) (h : aOne false P tb N ops i σ K) : aOne false P tb N ops i σ K' := by
  obtain ⟨d, s1, k, h1, h2, h3⟩ := aOne_loc h
  refine h3 σ K' (fun _ _ => rfl) (fun _ => rfl) (fun _ => rfl) ?_
  have e : (⟨if (flagsAt ops i).wr then s1.heap else σ.s.heap, if (flagsAt ops i).tk then s1.live else σ.s.live⟩ : S) = s1 := by
    refine S.ext' ?_ ?_
    · show (if (flagsAt ops i).wr then s1.heap else σ.s.heap) = s1.heap
      split
      · rfl
      · rename_i hw; exact (h1 (by simpa using hw)).symm
    · show (if (flagsAt ops i).tk then s1.live else σ.s.live) = s1.live
      split
      · rfl
      · rename_i hw; exact (h2 (by simpa using hw)).symm
  rw [e]; exact hK _ k
theorem aOne_eqv {N : Nat} {ops : List Oper} {i : Nat} {σ τ : St} {K : St → Prop} (hK : Closed K) (he : Eqv σ τ) (h : aOne false P tb N ops i σ K) : aOne false P tb N ops i τ K := by
  obtain ⟨d, s1, k, h1, h2, h3⟩ := aOne_loc h
  refine h3 τ K (fun t _ => he.1 t) (fun _ => by rw [he.2]) (fun _ => by rw [he.2]) (hK _ _ ⟨fun t => ?_, ?_⟩ k)
  · simp only [fset_look]; rw [he.1 t]
  · refine S.ext' ?_ ?_
    · show s1.heap = if (flagsAt ops i).wr then s1.heap else τ.s.heap
      split
      · rfl
      · rename_i hw; rw [h1 (by simpa using hw), he.2]
    · show s1.live = if (flagsAt ops i).tk then s1.live else τ.s.live
      split
      · rfl
      · rename_i hw; rw [h2 (by simpa using hw), he.2]
theorem aOps_eqv {N : Nat} {ops : List Oper} {K : St → Prop} (hK : Closed K) : ∀ l : List Nat, Closed fun σ => aOps false P tb N ops l σ K
  | [], σ, τ, he, h => hK σ τ he h
  | _ :: r, _, _, he, h => aOne_eqv (aOps_eqv hK r) he h
theorem indep_spec {ops : List Oper} {i j : Nat} (h : indep ops i j = true) : (∀ t, dstOf ops i = some t → t ∉ looksAt ops j) ∧ (∀ t, dstOf ops j = some t → t ∉ looksAt ops i) ∧ (∀ t, dstOf ops i = some t → dstOf ops j ≠ some t) ∧
    ((flagsAt ops i).wr = true → (flagsAt ops j).rd = false) ∧ ((flagsAt ops j).wr = true → (flagsAt ops i).rd = false) ∧ ((flagsAt ops i).tk = true → (flagsAt ops j).tk = false) := by
  simp only [indep, Bool.and_eq_true] at h
  obtain ⟨⟨⟨⟨⟨h1, h2⟩, h3⟩, h4⟩, h5⟩, h6⟩ := h
  refine ⟨fun t ht => ?_, fun t ht => ?_, fun t ht ht' => ?_, fun e => ?_, fun e => ?_, fun e => ?_⟩
  · rw [ht] at h1; simpa using h1
  · rw [ht] at h2; simpa using h2
  · rw [ht, ht'] at h3; simp at h3
  · simpa [e] using h4
  · simpa [e] using h5
  · simpa [e] using h6
theorem aOne_swap {N : Nat} {ops : List Oper} {i j : Nat} (hi : indep ops i j = true) {σ : St} {K : St → Prop} (hK : Closed K) (h : aOne false P tb N ops i σ fun σ1 => aOne false P tb N ops j σ1 K) :
    aOne false P tb N ops j σ fun σ1 => aOne false P tb N ops i σ1 K := by
  obtain ⟨p1, p2, p3, p4, p5, p6⟩ := indep_spec hi
  obtain ⟨d, s1, k, h1, h2, h3⟩ := aOne_loc h
  obtain ⟨d', s2, k', h1', h2', h3'⟩ := aOne_loc k
  have flip : ∀ {a b : Bool}, (a = true → b = false) → b = true → a = false := fun {a b} f hb => by
    cases a
    · rfl
    · rw [f rfl] at hb; cases hb
  refine h3' σ _ (fun t ht => ?_) (fun hr => ?_) (fun ht => ?_) ?_
  · rw [fset_look, if_neg fun e => p1 t e ht]
  · exact (h1 (flip p4 hr)).symm
  · exact (h2 (flip p6 ht)).symm
  refine h3 _ K (fun t ht => ?_) (fun hr => ?_) (fun ht => ?_) ?_
  · rw [fset_look, if_neg fun e => p2 t e ht]
  · show (if (flagsAt ops j).wr then s2.heap else σ.s.heap) = σ.s.heap
    rw [flip p5 hr]; rfl
  · show (if (flagsAt ops j).tk then s2.live else σ.s.live) = σ.s.live
    rw [p6 ht]; rfl
  refine hK _ _ ⟨fun t => ?_, S.ext' ?_ ?_⟩ k'
  · simp only [fset_look]
    by_cases e1 : dstOf ops j = some t
    · have e2 : dstOf ops i ≠ some t := fun e => p3 t e e1
      rw [if_pos e1, if_neg e2, if_pos e1]
    · rw [if_neg e1, if_neg e1]
  · show s2.heap = if (flagsAt ops i).wr then s1.heap else if (flagsAt ops j).wr then s2.heap else σ.s.heap
    cases hwi : (flagsAt ops i).wr
    · cases hwj : (flagsAt ops j).wr
      · rw [h1' hwj]; exact h1 hwi
      · rfl
    · have hwj : (flagsAt ops j).wr = false := by
        cases hw : (flagsAt ops j).wr
        · rfl
        · have := flagsAt_wr ops j hw; rw [p4 hwi] at this; cases this
      exact h1' hwj
  · show s2.live = if (flagsAt ops i).tk then s1.live else if (flagsAt ops j).tk then s2.live else σ.s.live
    cases hwi : (flagsAt ops i).tk
    · cases hwj : (flagsAt ops j).tk
      · rw [h2' hwj]; exact h2 hwi
      · rfl
    · exact h2' (p6 hwi)
theorem aOps_front {N : Nat} {ops : List Oper} {x : Nat} {B : List Nat} {K : St → Prop} (hK : Closed K) : ∀ (A : List Nat) (σ : St), (∀ a ∈ A, indep ops a x = true) → aOps false P tb N ops (A ++ x :: B) σ K → aOne false P tb N ops x σ fun σ1 => aOps false P tb N ops (A ++ B) σ1 K
  | [], σ, _, h => h
  | a :: A, σ, hA, h => by
    have h1 : aOne false P tb N ops a σ fun σ1 => aOne false P tb N ops x σ1 fun σ2 => aOps false P tb N ops (A ++ B) σ2 K :=
      aOne_mono (fun τ hτ => aOps_front hK A τ (fun b hb => hA b (by simp [hb])) hτ) h
    exact aOne_swap (hA a (by simp)) (aOps_eqv hK (A ++ B)) h1
/-- What the edges order ahead of what. -/
inductive Reach (ops : List Oper) : Nat → Nat → Prop where
  | one {i : Nat} {o : Oper} {e : Edge} : ops[i]? = some o → e ∈ o.after → Region.binds .any e = true → Reach ops e.on i
  | trans {a p i : Nat} : Reach ops a p → Reach ops p i → Reach ops a i
def ancsGo : List Oper → List (List Nat) → List (List Nat)
  | [], acc => acc
  | o :: r, acc => ancsGo r (acc ++ [((((o.after.toList.filter (Region.binds .any)).map (·.on)) ++ ((o.after.toList.filter (Region.binds .any)).map (·.on)).flatMap fun p => acc.getD p []).eraseDups)])
theorem ancsGo_spec {ops : List Oper} : ∀ (r pre : List Oper) (acc : List (List Nat)), ops = pre ++ r → acc.length = pre.length → (∀ i l a, acc[i]? = some l → a ∈ l → Reach ops a i) → ∀ i l a, (ancsGo r acc)[i]? = some l → a ∈ l → Reach ops a i
  | [], _, acc, _, _, h => h
  | o :: r, pre, acc, hp, hl, h => by
    refine ancsGo_spec r (pre ++ [o]) _ (by rw [hp, List.append_assoc]; rfl) (by simp [hl]) fun i l a hi ha => ?_
    by_cases hlt : i < acc.length
    · rw [List.getElem?_append_left hlt] at hi
      exact h i l a hi ha
    · have hi2 : i = acc.length := by have := (List.getElem?_eq_some_iff.1 hi).1; simp at this; omega
      subst hi2
      rw [List.getElem?_concat_length] at hi
      cases hi
      have ho : ops[acc.length]? = some o := by rw [hp, hl, List.getElem?_append_right (Nat.le_refl _), Nat.sub_self]; rfl
      have hone : ∀ p, p ∈ (o.after.toList.filter (Region.binds .any)).map (·.on) → Reach ops p acc.length := fun p hpm => by
        obtain ⟨e, he, rfl⟩ := List.mem_map.1 hpm
        rw [List.mem_filter] at he
        exact .one ho (by simpa using he.1) he.2
      rw [List.mem_eraseDups, List.mem_append] at ha
      rcases ha with ha | ha
      · exact hone a ha
      · obtain ⟨p, hpm, hap⟩ := List.mem_flatMap.1 ha
        refine .trans (h p (acc.getD p []) a ?_ hap) (hone p hpm)
        cases hq : acc[p]? with
        | none => simp [List.getD, hq] at hap
        | some l => simp [List.getD, hq]
/-- Every two operations are in order, or apart. -/
def lexOk (ops : List Oper) : Bool :=
  let an := ancsGo ops []
  (List.range ops.length).all fun i => match ops[i]? with
    | some o => o.after.toList.all (fun e => !Region.binds .any e || decide (e.on < i)) && (List.range i).all fun a => (an.getD i []).contains a || indep ops a i
    | none => true
theorem lexOk_spec {ops : List Oper} (h : lexOk ops = true) {i : Nat} {o : Oper} (ho : ops[i]? = some o) : (∀ e ∈ o.after, Region.binds .any e = true → e.on < i) ∧
    ∀ a, a < i → Reach ops a i ∨ indep ops a i = true := by
  unfold lexOk at h
  rw [List.all_eq_true] at h
  have := h i (List.mem_range.2 (List.getElem?_eq_some_iff.1 ho).1)
  simp only [ho, Bool.and_eq_true, List.all_eq_true, Bool.or_eq_true, List.mem_range, List.contains_iff_mem] at this
  obtain ⟨h1, h2⟩ := this
  refine ⟨fun e he hb => ?_, fun a ha => ?_⟩
  · have := h1 e (by simpa using he)
    simpa [hb] using this
  · rcases h2 a ha with h | h
    · cases hq : (ancsGo ops [])[i]? with
      | none => simp [List.getD, hq] at h
      | some l =>
        simp [List.getD, hq] at h
        exact .inl (ancsGo_spec ops [] [] rfl rfl (fun i l a h => by simp at h) i l a hq h)
    · exact .inr h
/-- What is listed has all that is ahead of it listed. -/
def Down (ops : List Oper) (listed : Array Bool) : Prop := ∀ i o, ops[i]? = some o → listed.getD i true = true → ∀ e ∈ o.after, Region.binds .any e = true → listed.getD e.on false = true
theorem Down.reach {ops : List Oper} {listed : Array Bool} (hs : listed.size = ops.length) (hd : Down ops listed) {a i : Nat} (h : Reach ops a i) : (∀ o, ops[i]? = some o → (∀ e ∈ o.after, Region.binds .any e = true → listed.getD e.on false = true)) → listed.getD a false = true := by
  induction h with
  | one ho he hb => exact fun k => k _ ho _ he hb
  | @trans a p i h1 h2 ih1 ih2 =>
    intro k
    have hp := ih2 k
    refine ih1 fun o ho e he hb => hd p o ho ?_ e he hb
    have hlt : p < listed.size := by rw [hs]; exact (List.getElem?_eq_some_iff.1 ho).1
    simp only [Array.getD_eq_getD_getElem?, Array.getElem?_eq_getElem hlt, Option.getD_some] at hp ⊢
    exact hp
theorem any_sound (hT : TblOk P tb) {N : Nat} {ops : List Oper} (hl : lexOk ops = true) {Q : Exit → Act → World → Prop} {K : St → Prop} (hK : Closed K) {B : Nat × Nat} {G0 : Gh} {w0 : World} (hQ : ∀ a w G σ, Ex B G0 w0 G w → Rel N G σ a w → K σ → Q .normal a w) :
    ∀ (fuel : Nat) (listed : Array Bool) (σ : St) (a : Act) (w : World) (G : Gh), listed.size = ops.length → Down ops listed → ((List.range ops.length).filter fun i => !listed.getD i true).length = fuel → Ex B G0 w0 G w → Rel N G σ a w →
      aOps false P tb N ops ((List.range ops.length).filter fun i => !listed.getD i true) σ K → wpAny P .any ops.toArray Q fuel listed a w
  | 0, listed, σ, a, w, G, hs, hdn, hf, hE, hR, h => by
    have hnil := List.eq_nil_of_length_eq_zero hf
    rw [hnil] at h
    refine ⟨?_, hQ a w G σ hE hR h⟩
    apply List.eq_nil_iff_forall_not_mem.2
    intro i hi
    obtain ⟨h1, o, ho, -⟩ := mem_ready.1 hi
    have : i ∈ (List.range ops.length).filter fun i => !listed.getD i true := by
      rw [List.mem_filter, List.mem_range]
      exact ⟨by have := (Array.getElem?_eq_some_iff.1 ho).1; simpa using this, by rw [h1]; rfl⟩
    rw [hnil] at this
    cases this
  | fuel + 1, listed, σ, a, w, G, hs, hdn, hf, hE, hR, h => by
    refine ⟨fun hr => ?_, fun i hi => ?_⟩
    · exfalso
      generalize hL : ((List.range ops.length).filter fun i => !listed.getD i true) = L at hf
      cases L with
      | nil => simp at hf
      | cons x r =>
        have hx : x ∈ (List.range ops.length).filter fun i => !listed.getD i true := by rw [hL]; simp
        rw [List.mem_filter, List.mem_range] at hx
        obtain ⟨hx1, hx2⟩ := hx
        have ho : ops[x]? = some ops[x] := List.getElem?_eq_getElem hx1
        have hmem : x ∈ Region.ready .any ops.toArray listed := by
          refine mem_ready.2 ⟨by simpa using hx2, ops[x], by simp, fun e he hb => ?_⟩
          have hlt := (lexOk_spec hl ho).1 e he hb
          cases hg : listed.getD e.on false
          · exfalso
            have hmm : e.on ∈ (List.range ops.length).filter fun i => !listed.getD i true := by
              rw [List.mem_filter, List.mem_range]
              refine ⟨by omega, ?_⟩
              have hlt2 : e.on < listed.size := by omega
              simp only [Array.getD_eq_getD_getElem?, Array.getElem?_eq_getElem hlt2, Option.getD_some] at hg ⊢
              simp [hg]
            have hsorted : ((List.range ops.length).filter fun i => !listed.getD i true).Pairwise (· < ·) := List.Pairwise.filter _ List.pairwise_lt_range
            rw [hL] at hmm hsorted
            rcases List.mem_cons.1 hmm with h0 | h0
            · omega
            · have := List.rel_of_pairwise_cons hsorted h0; omega
          · rfl
        rw [hr] at hmem
        cases hmem
    · obtain ⟨h1, o, ho, hp⟩ := mem_ready.1 hi
      have ho' : ops[i]? = some o := by simpa using ho
      have hil : i < ops.length := (List.getElem?_eq_some_iff.1 ho').1
      have him : i ∈ (List.range ops.length).filter fun i => !listed.getD i true := by
        rw [List.mem_filter, List.mem_range]; exact ⟨hil, by rw [h1]; rfl⟩
      have hsorted : ((List.range ops.length).filter fun i => !listed.getD i true).Pairwise (· < ·) := List.Pairwise.filter _ List.pairwise_lt_range
      obtain ⟨A, B, hAB⟩ := List.append_of_mem him
      have hA : ∀ x ∈ A, x < i ∧ listed.getD x true = false := fun x hx => by
        refine ⟨?_, ?_⟩
        · rw [hAB] at hsorted
          exact (List.pairwise_append.1 hsorted).2.2 x hx i (by simp)
        · have : x ∈ (List.range ops.length).filter fun i => !listed.getD i true := by rw [hAB]; simp [hx]
          rw [List.mem_filter] at this
          simpa using this.2
      rw [hAB] at h
      have hfront := aOps_front hK A σ (fun x hx => by
        obtain ⟨hx1, hx2⟩ := hA x hx
        rcases (lexOk_spec hl ho').2 x hx1 with hre | h0
        · have := hdn.reach hs hre fun o2 ho2 e he hb => by
            rw [ho'] at ho2
            cases ho2
            exact hp e he hb
          have hlt2 : x < listed.size := by omega
          simp only [Array.getD_eq_getD_getElem?, Array.getElem?_eq_getElem hlt2, Option.getD_some] at this hx2
          rw [this] at hx2; cases hx2
        · exact h0) h
      have hnew : ((List.range ops.length).filter fun k => !(listed.setIfInBounds i true).getD k true) = A ++ B := by
        have e1 : ((List.range ops.length).filter fun k => !(listed.setIfInBounds i true).getD k true) = ((List.range ops.length).filter fun k => !listed.getD k true).filter fun k => k != i := by
          rw [List.filter_filter]
          apply List.filter_congr
          intro k hk
          by_cases hki : k = i
          · subst hki
            have hks : k < listed.size := by omega
            simp [Array.getD_eq_getD_getElem?, hks]
          · rw [getD_set_ne true (fun e => hki e.symm)]
            simp [hki]
        rw [e1, hAB]
        have hnd : (A ++ i :: B).Nodup := by
          rw [← hAB]; exact List.Pairwise.filter _ List.nodup_range
        rw [List.nodup_append] at hnd
        obtain ⟨n1, n2, n3⟩ := hnd
        rw [List.nodup_cons] at n2
        rw [List.filter_append, List.filter_cons]
        simp only [bne_self_eq_false, Bool.false_eq_true, if_false]
        congr 1
        · exact List.filter_eq_self.2 fun x hx => by
            have := n3 x hx i (by simp)
            simpa using this
        · exact List.filter_eq_self.2 fun x hx => by
            have : x ≠ i := fun e => n2.1 (e ▸ hx)
            simpa using this
      refine aOne_sound hT hR hfront fun a' w' G' σ' s1 r1 k1 => ?_
      have hdn' : Down ops (listed.setIfInBounds i true) := fun k o2 ho2 hk e he hb => by
        refine getD_set_true ?_
        by_cases hki : k = i
        · subst hki
          rw [ho'] at ho2
          cases ho2
          exact hp e he hb
        · rw [getD_set_ne true (fun e => hki e.symm)] at hk
          exact hdn k o2 ho2 hk e he hb
      refine any_sound hT hl hK hQ fuel _ σ' a' w' G' (by simp [hs]) hdn' ?_ (hE.trans (s1.ex _)) r1 ?_
      · rw [hnew]
        rw [hAB] at hf
        simp at hf ⊢; omega
      · rw [hnew]; exact k1
end
end Go.Proofs.Ytcegigccehapdaa
