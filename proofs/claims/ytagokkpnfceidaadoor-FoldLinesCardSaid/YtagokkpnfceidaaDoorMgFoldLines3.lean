/- The proof's texts, part 3 of 10: the walks by a logic in which data are by value, the plain laws, and at the end the law, for every input. -/
import Derived.Test.YtagokkpnfceidaaDoorMgFoldLines2
import Derived.IntWalk

section
namespace Go.Proofs.YtagokkpnfceidaaDoor
open Go.RowKit

section
variable {P : Program} {tb : Tbl}
theorem evs_congr {e e' : Operand → Option D} : ∀ (l : List Operand), (∀ x ∈ l, e x = e' x) → evs e l = evs e' l
  | [], _ => rfl
  | x :: r, h => by
    have h1 := h x (by simp)
    have h2 := evs_congr r fun y hy => h y (by simp [hy])
    simp only [evs, h1, h2]
theorem evps_congr {e e' : Operand → Option D} : ∀ (l : List (Nat × Operand)), (∀ x ∈ l, e x.2 = e' x.2) → evps e l = evps e' l
  | [], _ => rfl
  | (i, x) :: r, h => by
    have h1 := h (i, x) (by simp)
    have h2 := evps_congr r fun y hy => h y (by simp [hy])
    simp only at h1
    simp only [evps, h1, h2]
theorem evo_congr {e e' : Operand → Option D} (x : Option Operand) (h : ∀ y ∈ x, e y = e' y) : evo e x = evo e' x := by
  cases x with
  | none => rfl
  | some x => simp only [evo, h x (by simp)]
theorem aStep_congr {gn : Bool} (o : Op) {e e' : Operand → Option D} (h : ∀ x ∈ o.operands.toList, e x = e' x) (s : S) (K : D → S → Prop) : aStep gn P tb o e s K = aStep gn P tb o e' s K := by
  cases o with
  | call c =>
    cases hc : c.callee with
    | value f =>
      have h1 : e f = e' f := h f (by simp [Op.operands, Call.operands, hc])
      have h2 := evs_congr (e := e) (e' := e') c.args.toList fun x hx => h x (by simp [Op.operands, Call.operands, hc]; exact .inr (by simpa using hx))
      simp only [aStep, isCall, hc, aCall, h1, h2]
    | invoke r m => simp only [aStep, isCall, hc, aOp]
    | builtin b =>
      have h2 := evs_congr (e := e) (e' := e') c.args.toList fun x hx => h x (by simp [Op.operands, Call.operands, hc]; simpa using hx)
      simp only [aStep, isCall, hc, aOp, h2]
  | build t ps =>
    have h2 := evps_congr (e := e) (e' := e') ps.toList fun x hx => h x.2 (by simp [Op.operands]; exact ⟨x.1, by simpa using hx⟩)
    simp only [aStep, isCall, aOp, h2]
  | buildSlice t n ps =>
    have h2 := evps_congr (e := e) (e' := e') ps.toList fun x hx => h x.2 (by simp [Op.operands]; exact ⟨x.1, by simpa using hx⟩)
    simp only [aStep, isCall, aOp, h2]
  | makeFunc f xs ys =>
    have h1 := evs_congr (e := e) (e' := e') xs.toList fun x hx => h x (by simp [Op.operands]; exact .inl (by simpa using hx))
    have h2 := evs_congr (e := e) (e' := e') ys.toList fun x hx => h x (by simp [Op.operands]; exact .inr (by simpa using hx))
    simp only [aStep, isCall, aOp, h1, h2]
  | slice t x lo hi mx =>
    have h1 := h x (by simp [Op.operands])
    have h2 := evo_congr (e := e) (e' := e') lo fun y hy => h y (by simp [Op.operands]; exact .inr (.inl (by simpa using hy)))
    have h3 := evo_congr (e := e) (e' := e') hi fun y hy => h y (by simp [Op.operands]; exact .inr (.inr (.inl (by simpa using hy))))
    cases mx <;> simp only [aStep, isCall, aOp, h1, h2, h3]
  | pick c x y =>
    have h1 := h c (by simp [Op.operands])
    have h2 := h x (by simp [Op.operands])
    have h3 := h y (by simp [Op.operands])
    simp only [aStep, isCall, aOp, h1, h2, h3]
  | move x => simp only [aStep, isCall, aOp, h x (by simp [Op.operands])]
  | assign x => simp only [aStep, isCall, aOp, h x (by simp [Op.operands])]
  | box t x => simp only [aStep, isCall, aOp, h x (by simp [Op.operands])]
  | load t x => simp only [aStep, isCall, aOp, h x (by simp [Op.operands])]
  | makeSlice t x y => simp only [aStep, isCall, aOp, h x (by simp [Op.operands]), h y (by simp [Op.operands])]
  | nilCheck x => simp only [aStep, isCall, aOp, h x (by simp [Op.operands])]
  | unOp op t x => simp only [aStep, isCall, aOp, h x (by simp [Op.operands])]
  | convert a b x => simp only [aStep, isCall, aOp, h x (by simp [Op.operands])]
  | fieldAddr a x f => simp only [aStep, isCall, aOp, h x (by simp [Op.operands])]
  | field a x f => simp only [aStep, isCall, aOp, h x (by simp [Op.operands])]
  | extract x i => simp only [aStep, isCall, aOp, h x (by simp [Op.operands])]
  | store t x y => simp only [aStep, isCall, aOp, h x (by simp [Op.operands]), h y (by simp [Op.operands])]
  | binOp op t x y t' => simp only [aStep, isCall, aOp, h x (by simp [Op.operands]), h y (by simp [Op.operands])]
  | indexAddr t x y => simp only [aStep, isCall, aOp, h x (by simp [Op.operands]), h y (by simp [Op.operands])]
  | index t x y => simp only [aStep, isCall, aOp, h x (by simp [Op.operands]), h y (by simp [Op.operands])]
  | alloc t => simp only [aStep, isCall, aOp]
  | _ => simp only [aStep, isCall, aOp]

/-- Slots read alike, memory alike. -/
def Eqv (σ τ : St) : Prop := (∀ t, σ.env.lookup t = τ.env.lookup t) ∧ σ.s = τ.s
theorem Eqv.refl (σ : St) : Eqv σ σ := ⟨fun _ => rfl, rfl⟩
theorem Eqv.trans {σ τ υ : St} (h : Eqv σ τ) (k : Eqv τ υ) : Eqv σ υ := ⟨fun t => (h.1 t).trans (k.1 t), h.2.trans k.2⟩
theorem Eqv.symm {σ τ : St} (h : Eqv σ τ) : Eqv τ σ := ⟨fun t => (h.1 t).symm, h.2.symm⟩
def dstOf (ops : List Oper) (i : Nat) : Option Nat := (ops[i]?).bind (·.dst)
def looks (ops : List Oper) (o : Oper) : List Nat :=
  (o.op.operands.toList.filterMap fun | .tmp t => some t | _ => none) ++ (match o.guard with | some (j, _) => (dstOf ops j).toList | none => [])
def fset (dst : Option Nat) (d : D) (env : Env) : Env := match dst with | some t => (t, d) :: env | none => env
theorem fset_look (dst : Option Nat) (d : D) (env : Env) (t : Nat) : (fset dst d env).lookup t = if dst = some t then some d else env.lookup t := by
  unfold fset
  split
  · rename_i t'
    rw [List.lookup_cons]
    by_cases h : t' = t
    · subst h; simp
    · have hb : (t == t') = false := by simpa using fun e => h e.symm
      have hne : ¬ (some t' = some t) := fun e => h (Option.some.inj e)
      rw [hb, if_neg hne]
  · simp
theorem putE_iff {N : Nat} {env : Env} {dst : Option Nat} {d : D} {k : Env → Prop} : putE N env dst d k ↔ (∀ t, dst = some t → t < N) ∧ k (fset dst d env) := by
  unfold putE fset
  cases dst with
  | none => simp
  | some t =>
    by_cases h : t < N
    · simp [h]
    · simp [h]
/-- The value that is put, behind the parting on a truth. -/
theorem splitB_det {g : Bool} {d : D} {k : D → Prop} (h : splitB g d k) : k d ∧ ∀ k' : D → Prop, k' d → splitB g d k' := by
  refine ⟨splitB_elim h, fun k' hk => ?_⟩
  unfold splitB
  split
  · rename_i b
    cases b
    · exact ⟨(fun h => by cases h), fun _ => hk⟩
    · exact ⟨fun _ => hk, (fun h => by cases h)⟩
  · exact hk
theorem aWant_congr {ops : List Oper} {o : Oper} {env env' : Env} (h : ∀ t ∈ looks ops o, env.lookup t = env'.lookup t) : aWant ops env o.guard = aWant ops env' o.guard := by
  unfold aWant
  split
  · rfl
  · rename_i j want hg
    split
    · rename_i t ht
      have : t ∈ looks ops o := by
        unfold looks
        rw [hg]
        simp only [List.mem_append]
        exact .inr (by simp [dstOf, ht])
      rw [h t this]
    · rfl
theorem ev_congr {ops : List Oper} {o : Oper} {env env' : Env} (h : ∀ t ∈ looks ops o, env.lookup t = env'.lookup t) : ∀ x ∈ o.op.operands.toList, ev env x = ev env' x := by
  intro x hx
  cases x with
  | tmp t =>
    refine h t ?_
    unfold looks
    simp only [List.mem_append, List.mem_filterMap]
    exact .inl ⟨.tmp t, hx, rfl⟩
  | _ => rfl
def looksAt (ops : List Oper) (i : Nat) : List Nat := match ops[i]? with | some o => looks ops o | none => []
def Closed (K : St → Prop) : Prop := ∀ σ τ, Eqv σ τ → K σ → K τ
theorem S.ext' {a b : S} (h1 : a.heap = b.heap) (h2 : a.live = b.live) : a = b := by cases a; cases b; simp_all
/-- What the edges order ahead of what. -/
inductive Reach (ops : List Oper) : Nat → Nat → Prop where
  | one {i : Nat} {o : Oper} {e : Edge} : ops[i]? = some o → e ∈ o.after → Region.binds .any e = true → Reach ops e.on i
  | trans {a p i : Nat} : Reach ops a p → Reach ops p i → Reach ops a i
def ancsGo : List Oper → List (List Nat) → List (List Nat)
  | [], acc => acc
  | o :: r, acc => ancsGo r (acc ++ [((((o.after.toList.filter (Region.binds .any)).map (·.on)) ++ ((o.after.toList.filter (Region.binds .any)).map (·.on)).flatMap fun p => acc.getD p []).eraseDups)])
theorem ancsGo_spec {ops : List Oper} : ∀ (r pre : List Oper) (acc : List (List Nat)), ops = pre ++ r → acc.length = pre.length → (∀ i l a, acc[i]? = some l → a ∈ l → Reach ops a i) → ∀ i l a, (ancsGo r acc)[i]? = some l → a ∈ l → Reach ops a i
  | [], _, acc, _, _, h => h
  | o :: r, pre, acc, hp, hl, h => by
    refine ancsGo_spec r (pre ++ [o]) _ (by rw [hp, List.append_assoc]; rfl) (by simp [hl]) fun i l a hi ha => ?_
    by_cases hlt : i < acc.length
    · rw [List.getElem?_append_left hlt] at hi
      exact h i l a hi ha
    · have hi2 : i = acc.length := by have := (List.getElem?_eq_some_iff.1 hi).1; simp at this; omega
      subst hi2
      rw [List.getElem?_concat_length] at hi
      cases hi
      have ho : ops[acc.length]? = some o := by rw [hp, hl, List.getElem?_append_right (Nat.le_refl _), Nat.sub_self]; rfl
      have hone : ∀ p, p ∈ (o.after.toList.filter (Region.binds .any)).map (·.on) → Reach ops p acc.length := fun p hpm => by
        obtain ⟨e, he, rfl⟩ := List.mem_map.1 hpm
        rw [List.mem_filter] at he
        exact .one ho (by simpa using he.1) he.2
      rw [List.mem_eraseDups, List.mem_append] at ha
      rcases ha with ha | ha
      · exact hone a ha
      · obtain ⟨p, hpm, hap⟩ := List.mem_flatMap.1 ha
        refine .trans (h p (acc.getD p []) a ?_ hap) (hone p hpm)
        cases hq : acc[p]? with
        | none => simp [List.getD, hq] at hap
        | some l => simp [List.getD, hq]
/-- What is listed has all that is ahead of it listed. -/
def Down (ops : List Oper) (listed : Array Bool) : Prop := ∀ i o, ops[i]? = some o → listed.getD i true = true → ∀ e ∈ o.after, Region.binds .any e = true → listed.getD e.on false = true
theorem Down.reach {ops : List Oper} {listed : Array Bool} (hs : listed.size = ops.length) (hd : Down ops listed) {a i : Nat} (h : Reach ops a i) : (∀ o, ops[i]? = some o → (∀ e ∈ o.after, Region.binds .any e = true → listed.getD e.on false = true)) → listed.getD a false = true := by
  induction h with
  | one ho he hb => exact fun k => k _ ho _ he hb
  | @trans a p i h1 h2 ih1 ih2 =>
    intro k
    have hp := ih2 k
    refine ih1 fun o ho e he hb => hd p o ho ?_ e he hb
    have hlt : p < listed.size := by rw [hs]; exact (List.getElem?_eq_some_iff.1 ho).1
    simp only [Array.getD_eq_getD_getElem?, Array.getElem?_eq_getElem hlt, Option.getD_some] at hp ⊢
    exact hp
end
end Go.Proofs.YtagokkpnfceidaaDoor
end

section
namespace Go.Proofs.YtagokkpnfceidaaDoor
open Go.RowKit

def normE : List Nat → Env → Env
  | [], _ => []
  | t :: r, env => match env.lookup t with
    | some d => (t, d) :: normE r env
    | none => normE r env
def forceN (n : Nat) (K : Nat → Prop) : Prop := match n with
  | 0 => K 0
  | n + 1 => forceN n fun m => K (m + 1)
def forceD (d : D) (K : D → Prop) : Prop := match d with
  | .p x => K (.p x)
  | .ptr n o => forceN n fun n => K (.ptr n o)
  | d => K d
def forceE (l : Env) (K : Env → Prop) : Prop := match l with
  | [] => K []
  | (t, d) :: r => forceD d fun d => forceE r fun r => K ((t, d) :: r)
def forceH (l : List (List D)) (K : List (List D) → Prop) : Prop := match l with
  | [] => K []
  | d :: r => forceH r fun r => K (d :: r)
def force (σ : St) (K : St → Prop) : Prop := forceE σ.env fun env => forceH σ.s.heap fun heap => K ⟨env, ⟨heap, σ.s.live⟩⟩
theorem forceN_eq : ∀ (n : Nat) (K : Nat → Prop), forceN n K = K n
  | 0, _ => rfl
  | n + 1, K => by rw [forceN, forceN_eq n]
theorem forceD_eq (d : D) (K : D → Prop) : forceD d K = K d := by
  cases d with
  | ptr n o => exact forceN_eq n _
  | _ => rfl
theorem forceE_eq : ∀ (l : Env) (K : Env → Prop), forceE l K = K l
  | [], _ => rfl
  | (t, d) :: r, K => by rw [forceE, forceD_eq, forceE_eq r]
theorem forceH_eq : ∀ (l : List (List D)) (K : List (List D) → Prop), forceH l K = K l
  | [], _ => rfl
  | d :: r, K => by rw [forceH, forceH_eq r]
theorem force_eq (σ : St) (K : St → Prop) : force σ K = K σ := by rw [force, forceE_eq, forceH_eq]
def keep (l : Option (List Nat)) (σ : St) : St := match l with | some l => ⟨normE l σ.env, σ.s⟩ | none => σ
theorem normE_look : ∀ (l : List Nat) (env : Env) (t : Nat) (d : D), (normE l env).lookup t = some d → env.lookup t = some d
  | [], env, t, d, h => by simp [normE] at h
  | x :: r, env, t, d, h => by
    unfold normE at h
    split at h
    · rename_i d' hd
      rw [List.lookup_cons] at h
      by_cases hx : t = x
      · subst hx
        simp only [beq_self_eq_true, Option.some.injEq] at h
        rw [hd, h]
      · have hb : (t == x) = false := by simpa using hx
        rw [hb] at h
        exact normE_look r env t d h
    · exact normE_look r env t d h
theorem normE_congr : ∀ (l : List Nat) {e e' : Env}, (∀ t, e.lookup t = e'.lookup t) → normE l e = normE l e'
  | [], _, _, _ => rfl
  | x :: r, e, e', h => by
    unfold normE
    rw [h x, normE_congr r h]
theorem keep_rel {N : Nat} {G : Gh} {σ : St} {a : Act} {w : World} (h : Rel N G σ a w) (l : Option (List Nat)) : Rel N G (keep l σ) a w := by
  unfold keep
  split
  · exact ⟨h.inv, fun t d hd => h.env t d (normE_look _ _ t d hd), h.size⟩
  · exact h

section
variable {P : Program} {tb : Tbl}
/-- The mark of a loop over a function among the deferred calls. -/
def markOf (b : Nat) : Deferred := { target := .collected b, args := #[] }
/-- What the frame leans on: the marks among its deferred calls; the record of the loop whose round it is. -/
structure Fr (rd : Option Nat) (lo : Nat) (G : Gh) (a : Act) (w : World) : Prop where
  marks : ∃ Ds : List Nat, a.defers = Ds.map markOf ∧ Ds.Nodup ∧ ∀ b ∈ Ds, lo ≤ b ∧ w.heap[b]? = some (.deferred (some [])) ∧ b ∉ G.name ∧ ∀ T ∈ G.tok, ¬ T.has b
  round : ∀ l, rd = some l → (∃ r, w.heap[l]? = some (.loop r)) ∧ l ∉ G.name ∧ ∀ T ∈ G.tok, ¬ T.has l
  size : lo ≤ w.heap.size
theorem Ext.stays {G G' : Gh} {w w' : World} (h : Ext G w G' w') {b : Nat} {o : Obj} (hb : w.heap[b]? = some o) (hn : b ∉ G.name) (ht : ∀ T ∈ G.tok, ¬ T.has b) : w'.heap[b]? = some o ∧ b ∉ G'.name ∧ ∀ T ∈ G'.tok, ¬ T.has b := by
  have hlt := (Array.getElem?_eq_some_iff.1 hb).1
  refine ⟨by rw [h.old b hlt hn ht]; exact hb, fun hm => ?_, fun T hT hh => ?_⟩
  · rcases h.mine b (.inl hm) with k | k | ⟨T, k, k2⟩
    · omega
    · exact hn k
    · exact ht T k k2
  · rcases h.mine b (.inr ⟨T, hT, hh⟩) with k | k | ⟨T, k, k2⟩
    · omega
    · exact hn k
    · exact ht T k k2
theorem Fr.ext {rd : Option Nat} {lo : Nat} {G G' : Gh} {a a' : Act} {w w' : World} (h : Fr rd lo G a w) (k : Ext G w G' w') (hd : a'.defers = a.defers) : Fr rd lo G' a' w' := by
  obtain ⟨Ds, h1, h2, h3⟩ := h.marks
  refine ⟨⟨Ds, by rw [hd]; exact h1, h2, fun b hb => ?_⟩, fun l hl => ?_, Nat.le_trans h.size k.size⟩
  · obtain ⟨k1, k2, k3, k4⟩ := h3 b hb
    exact ⟨k1, k.stays k2 k3 k4⟩
  · obtain ⟨⟨r, k2⟩, k3, k4⟩ := h.round l hl
    obtain ⟨g1, g2⟩ := k.stays k2 k3 k4
    exact ⟨⟨r, g1⟩, g2⟩
theorem Fr.none {G : Gh} {a : Act} {w : World} (ha : a.defers = []) : Fr Option.none w.heap.size G a w := ⟨⟨[], ha, List.nodup_nil, fun _ h => (nomatch h)⟩, fun _ h => (nomatch h), Nat.le_refl _⟩
/-- From every state that σ describes the code comes to one of Q's. -/
structure T (B : Nat × Nat) (P : Program) (N : Nat) (c : Code) (Q : Exit → St → Prop) (σ : St) : Prop where
  out : ∀ rd lo G a w, Rel N G σ a w → Fr rd lo G a w → c.wpIn (FW rd) 0 P (fun e a' w' => ∃ G' σ', Ex B G w G' w' ∧ Rel N G' σ' a' w' ∧ Fr rd lo G' a' w' ∧ Q e σ') a w
def firstReg : Code → Nat
  | .region id _ _ => id
  | .seq a b => min (firstReg a) (firstReg b)
  | .cond _ a b => min (firstReg a) (firstReg b)
  | .block _ b => firstReg b
  | .loop b => firstReg b
  | .rangeFunc _ _ a b => min (firstReg a) (firstReg b)
  | _ => 1000000
theorem T_keep {B : Nat × Nat} {N : Nat} {c : Code} {Q : Exit → St → Prop} {σ : St} (l : Option (List Nat)) (h : T B P N c Q (keep l σ)) : T B P N c Q σ := ⟨fun rd lo G a w hR hF => h.out rd lo G a w (keep_rel hR l) hF⟩
/-- What is known less well. -/
structure Le (B : Nat × Nat) (N : Nat) (σ τ : St) : Prop where
  out : ∀ G a w, Rel N G σ a w → ∃ G', Ex B G w G' w ∧ Rel N G' τ a w
theorem Le.refl (B : Nat × Nat) (N : Nat) (σ : St) : Le B N σ σ := ⟨fun G _ w hR => ⟨G, .refl B G w, hR⟩⟩
theorem Le.trans {B : Nat × Nat} {N : Nat} {σ τ υ : St} (h : Le B N σ τ) (k : Le B N τ υ) : Le B N σ υ := ⟨fun G a w hR => by
  obtain ⟨G1, e1, r1⟩ := h.out G a w hR
  obtain ⟨G2, e2, r2⟩ := k.out G1 a w r1
  exact ⟨G2, e1.trans e2, r2⟩⟩
theorem T_le {B : Nat × Nat} {N : Nat} {c : Code} {Q : Exit → St → Prop} {σ τ : St} (h : Le B N σ τ) (k : T B P N c Q τ) : T B P N c Q σ := ⟨fun rd lo G a w hR hF => by
  obtain ⟨G1, e1, r1⟩ := h.out G a w hR
  exact wpIn_mono (k.out rd lo G1 a w r1 (hF.ext e1.ext rfl)) fun e a' w' ⟨G', σ', hE, hR', hF', hq⟩ => ⟨G', σ', e1.trans hE, hR', hF', hq⟩⟩
def lessV : V → V
  | .sl _ es => .sl false es
  | x => x
theorem lessV_rel {C : Nat → Nat → Prop} {w : World} {x : V} {u : Value} (h : VRel C w x u) : VRel C w (lessV x) u := by
  cases h with
  | sl full es a cap size b off us g1 g2 g3 g4 g5 g6 g7 g8 => exact .sl false es a cap size b off us g1 g2 (fun h => by cases h) g4 g5 g6 g7 (fun h => by cases h)
  | v u h => exact .v u h
  | agg cs us h1 h2 h3 => exact .agg cs us h1 h2 h3
  | ep cs b off us h1 h2 => exact .ep cs b off us h1 h2
  | opt b cs u h1 h2 => exact .opt b cs u h1 h2
/-- All slots as data; variables and tokens are forgotten. -/
def pureE : Env → Option Env
  | [] => some []
  | (t, d) :: r => match unp d, pureE r with
    | some x, some l => some ((t, .p (lessV x)) :: l)
    | _, _ => none
theorem pureE_look : ∀ (env env' : Env), pureE env = some env' → ∀ t d', env'.lookup t = some d' → ∃ d x, env.lookup t = some d ∧ unp d = some x ∧ d' = .p (lessV x)
  | [], env', h, t, d', h' => by simp [pureE] at h; subst h; simp at h'
  | (t0, d) :: r, env', h, t, d', h' => by
    unfold pureE at h
    split at h
    · rename_i x l hx hl
      cases h
      rw [List.lookup_cons] at h' ⊢
      by_cases ht : t = t0
      · subst ht
        simp only [beq_self_eq_true, Option.some.injEq] at h' ⊢
        exact ⟨d, x, rfl, hx, h'.symm⟩
      · have hb : (t == t0) = false := by simpa using ht
        rw [hb] at h' ⊢
        exact pureE_look r l hl t d' h'
    · cases h
theorem Le.pure {N : Nat} {env env' : Env} {s : S} (h : pureE env = some env') : Le (0, 0) N ⟨env, s⟩ ⟨env', ⟨[], []⟩⟩ := ⟨fun G a w hR => by
  refine ⟨⟨G.com, [], []⟩, ⟨⟨rfl, rfl, rfl, Nat.le_refl _, fun _ _ _ h k => ⟨h, k⟩, fun _ _ _ _ => rfl, fun _ _ h => .inl h, fun b hb => ?_, fun _ _ h => h, .refl w⟩, fun nm b h => absurd h (Nat.not_lt_zero _), fun t T h => absurd h (Nat.not_lt_zero _)⟩, ⟨⟨fun b o hc => ⟨(hR.inv.com b o hc).1, by simp, by simp⟩, rfl, by simp, fun i b cs h => by simp at h, rfl, fun t T b h => by simp at h, fun T h => by simp at h, hR.inv.glob⟩, fun t d' hd => ?_, hR.size⟩⟩
  · simp at hb
  · obtain ⟨d, x, h1, h2, rfl⟩ := pureE_look env env' h t d' hd
    obtain ⟨k1, k2⟩ := hR.env t d h1
    exact ⟨k1, .p _ _ (lessV_rel (show VRel G.com w x _ from unp_rel k2 h2))⟩⟩
def setE : Env → Nat → D → Env
  | [], _, _ => []
  | (t, d) :: r, t', d' => if t = t' then (t, d') :: r else (t, d) :: setE r t' d'
theorem setE_look : ∀ (env : Env) (t : Nat) (d : D) (t' : Nat) (d' : D), (setE env t d).lookup t' = some d' → (env.lookup t' = some d' ∧ t' ≠ t) ∨ (t' = t ∧ d' = d)
  | [], _, _, _, _, h => by simp [setE] at h
  | (t0, d0) :: r, t, d, t', d', h => by
    unfold setE at h
    split at h
    · rename_i ht
      subst ht
      rw [List.lookup_cons] at h ⊢
      by_cases h2 : t' = t0
      · subst h2
        simp only [beq_self_eq_true, Option.some.injEq] at h
        exact .inr ⟨rfl, h.symm⟩
      · have hb : (t' == t0) = false := by simpa using h2
        rw [hb] at h ⊢
        exact .inl ⟨h, h2⟩
    · rename_i ht
      rw [List.lookup_cons] at h ⊢
      by_cases h2 : t' = t0
      · subst h2
        simp only [beq_self_eq_true, Option.some.injEq] at h ⊢
        exact .inl ⟨h, ht⟩
      · have hb : (t' == t0) = false := by simpa using h2
        rw [hb] at h ⊢
        exact setE_look r t d t' d' h
/-- A slice that is nil, or has no room, may be appended to by a token of its own. -/
theorem Le.own {B : Nat × Nat} {N : Nat} {env : Env} {s : S} (t e size : Nat) {es : List (List V)} (h : env.lookup t = some (.p (.sl true es))) (hs : ∀ x ∈ es, x.length = size) (h0 : es = [] := by exact rfl) :
    Le B N ⟨env, s⟩ ⟨setE env t (.own s.live.length e size es), ⟨s.heap, s.live ++ [es.length]⟩⟩ := ⟨fun G a w hR => by
  obtain ⟨s1, s2⟩ := addTok_stp hR.inv es.length
  refine ⟨_, s1.ex B, ⟨s2, fun t' d' hd => ?_, hR.size⟩⟩
  rcases setE_look _ _ _ _ _ hd with ⟨hd, -⟩ | ⟨rfl, rfl⟩
  · obtain ⟨k1, k2⟩ := hR.env t' d' hd
    exact ⟨k1, k2.mono s1⟩
  · obtain ⟨k1, k2⟩ := hR.env t' _ h
    refine ⟨k1, ?_⟩
    generalize a.tmps.getD t' undef = u at k2
    have hlive : G.tok.length = s.live.length := by rw [← hR.inv.live]; simp
    cases k2 with
    | p _ u hx =>
      obtain ⟨ad, cap, rfl, c1, c2, c3, c4⟩ := hx.isSlice
      have hx' : VRel G.com w (.sl false es) (.slice ad es.length cap) := by
        cases hx with
        | sl _ _ _ _ size b off us g1 g2 g3 g4 g5 g6 g7 g8 => exact .sl false es ad cap size b off us g1 g2 (fun h => by cases h) g4 g5 g6 g7 (fun h => by cases h)
      exact .own _ _ _ _ _ ⟨es.length, none, 0, none⟩ hx' hs (by rw [← hlive]; exact List.getElem?_concat_length) rfl (Nat.le_refl _) (fun _ => ⟨ad, cap, rfl, .inl ⟨by rw [c3 rfl, h0]; rfl, c4 rfl⟩⟩)⟩
theorem w64 {n : Int} (h1 : -9223372036854775808 ≤ n) (h2 : n ≤ 9223372036854775807) : IntKind.i64.wrap n = n := IntWalk.i64_in n ⟨h1, h2⟩
def args0 : List V → Nat → Env
  | [], _ => []
  | x :: r, i => (i, .p x) :: args0 r (i + 1)
def resAll (tb : Tbl) (σ : St) : List ResultVar → (List D → Prop) → Prop
  | [], K => K []
  | .tmp t :: r, K => match σ.env.lookup t with
    | some d => resAll tb σ r fun l => K (d :: l)
    | none => False
  | .cell t ty :: r, K => match σ.env.lookup t, tb.lookup ty with
    | some (.ptr nm off), some ti => match σ.s.heap[nm]? with
      | some ds => aLoadD ti (ds.drop off) fun d => resAll tb σ r fun l => K (d :: l)
      | none => False
    | _, _ => False
def retD : List D → Option D
  | [d] => (unp d).map .p
  | ds => (unps ds).map fun xs => .tup (xs.map .p)
def retQ (tb : Tbl) (rs : List ResultVar) (R : D → Prop) (e : Exit) (σ : St) : Prop :=
  match e with
  | .normal => resAll tb σ rs fun ds => match retD ds with | some d => R d | none => False
  | .ret => resAll tb σ rs fun ds => match retD ds with | some d => R d | none => False
  | _ => False
theorem args0_look : ∀ (xs : List V) (i t : Nat) (d : D), (args0 xs i).lookup t = some d → ∃ x, xs[t - i]? = some x ∧ i ≤ t ∧ d = .p x
  | [], _, _, _, h => by simp [args0] at h
  | x :: r, i, t, d, h => by
    unfold args0 at h
    rw [List.lookup_cons] at h
    by_cases ht : t = i
    · subst ht
      simp only [beq_self_eq_true, Option.some.injEq] at h
      exact ⟨x, by simp, Nat.le_refl _, h.symm⟩
    · have hb : (t == i) = false := by simpa using ht
      rw [hb] at h
      obtain ⟨y, h1, h2, h3⟩ := args0_look r (i + 1) t d h
      refine ⟨y, ?_, by omega, h3⟩
      rw [show t - i = (t - (i + 1)) + 1 by omega, List.getElem?_cons_succ]; exact h1
theorem resAll_sound (hT : TblOk P tb) {N : Nat} {G : Gh} {σ : St} {a : Act} {w : World} (hR : Rel N G σ a w) : ∀ (rs : List ResultVar) (K : List D → Prop), resAll tb σ rs K →
    ∃ ds us, (rs.mapM fun (r : ResultVar) => (match r with | .tmp t => pure (a.tmps.getD t undef) | .cell p t => do loadVar t (← asAddr (a.tmps.getD p undef)) : Sem Value)).run P w = .ok us w ∧ us.length = ds.length ∧ (∀ (j : Nat) d u, ds[j]? = some d → us[j]? = some u → DRel G w d u) ∧ K ds
  | [], K, h => ⟨[], [], rfl, rfl, fun j d u h => by simp at h, h⟩
  | .tmp t :: r, K, h => by
    unfold resAll at h
    split at h
    · rename_i d hd
      obtain ⟨ds, us, h1, h2, h3, h4⟩ := resAll_sound hT hR r _ h
      refine ⟨d :: ds, a.tmps.getD t undef :: us, by rw [List.mapM_cons, Sem.run_bind, Sem.run_pure, Result.andThen_ok, Sem.run_bind, h1]; rfl, by simp [h2], fun j d' u hj hu => ?_, h4⟩
      cases j with
      | zero => simp only [List.getElem?_cons_zero, Option.some.injEq] at hj hu; subst hj; subst hu; exact (hR.env t _ hd).2
      | succ j => exact h3 j d' u hj hu
    · exact h.elim
  | .cell t ty :: r, K, h => by
    unfold resAll at h
    split at h
    · rename_i nm off ti hd hti
      split at h
      · rename_i ds0 hs
        have hp := (hR.env t _ hd).2
        obtain ⟨v, d, hr, hdr, hK⟩ := aLoadD_val hT hR.inv hti hp hs h
        obtain ⟨ds, us, h1, h2, h3, h4⟩ := resAll_sound hT hR r _ hK
        have hrun : (do loadVar ty (← asAddr (a.tmps.getD t undef)) : Sem Value).run P w = .ok v w := by
          generalize a.tmps.getD t undef = q at hp hr
          cases hp
          simpa [asAddr, Instr.loadAt, Instr.sureAddr] using hr
        refine ⟨d :: ds, v :: us, ?_, by simp [h2], fun j d' u hj hu => ?_, h4⟩
        · rw [List.mapM_cons, Sem.run_bind, hrun, Result.andThen_ok, Sem.run_bind, h1]
          rfl
        · cases j with
          | zero => simp only [List.getElem?_cons_zero, Option.some.injEq] at hj hu; subst hj; subst hu; exact hdr
          | succ j => exact h3 j d' u hj hu
      · exact h.elim
    · exact h.elim

theorem unp_p {G : Gh} {w : World} {d : D} {u : Value} {x : V} (h : DRel G w d u) (hd : unp d = some x) : DRel G w (.p x) u := .p x u (unp_rel h hd)
theorem retD_rel {G : Gh} {w : World} {ds : List D} {us : List Value} (hl : us.length = ds.length) (h : ∀ (j : Nat) d u, ds[j]? = some d → us[j]? = some u → DRel G w d u) {r : D} (hr : retD ds = some r) :
    DRel G w r (if h : us.toArray.size = 1 then us.toArray[0] else .tuple us.toArray) ∧ ((∃ x, r = .p x) ∨ ∃ xs : List V, r = .tup (xs.map .p)) := by
  unfold retD at hr
  split at hr
  · rename_i d
    obtain ⟨x, hx, rfl⟩ := Option.map_eq_some_iff.1 hr
    match us, hl with
    | [u], _ => exact ⟨unp_p (h 0 d u rfl rfl) hx, .inl ⟨x, rfl⟩⟩
  · rename_i hne
    obtain ⟨xs, hx, rfl⟩ := Option.map_eq_some_iff.1 hr
    obtain ⟨u1, u2⟩ := unps_rel (G := G) (w := w) ds xs hx
    refine ⟨?_, .inr ⟨xs, rfl⟩⟩
    have hsz : ¬ us.toArray.size = 1 := by
      simp only [List.size_toArray, hl]
      intro h1
      match ds, h1 with
      | [d], _ => exact hne d rfl
    rw [dif_neg hsz]
    refine .tup _ _ (by simp [u1, hl]) (fun j c u hc hu => ?_)
    rw [List.getElem?_map] at hc
    obtain ⟨x, hx', rfl⟩ := Option.map_eq_some_iff.1 hc
    obtain ⟨d, hd, hxd⟩ := u2 j x hx'
    exact unp_p (h j d u hd (by simpa using hu)) hxd
end
end Go.Proofs.YtagokkpnfceidaaDoor
end

section
namespace Go.Proofs.YtagokkpnfceidaaDoor
open Go.RowKit

def D.lt1 (k m : Nat) : D → Bool
  | .p _ => true
  | .undef => true
  | .ptr nm _ => decide (nm < k)
  | .own t _ _ _ => decide (t < m)
  | .yld _ t _ => decide (t < m)
  | .sp _ _ _ nm _ => decide (nm < k)
  | .x t _ _ => decide (t < m)
  | .mh nm => decide (nm < k)
  | .fn _ _ _ | .agg _ | .tup _ | .sf _ | .ef _ => false
def D.ltF (k m : Nat) : D → Bool
  | .fn _ a b => a.all (D.lt1 k m) && b.all (D.lt1 k m)
  | d => D.lt1 k m d
/-- It names no variable from k on and no token from m on. -/
def D.lt (k m : Nat) : D → Bool
  | .fn _ a b => a.all (D.lt1 k m) && b.all (D.lt1 k m)
  | .agg a => a.all (D.lt1 k m)
  | .tup a => a.all (D.lt1 k m)
  | .sf a => a.all (D.ltF k m)
  | .ef d => D.ltF k m d
  | d => D.lt1 k m d
def Gh.trunc (G : Gh) (k m : Nat) : Gh := ⟨G.com, G.name.take k, G.tok.take m⟩
theorem takeGet {α : Type} {l : List α} {k i : Nat} {x : α} (h : l[i]? = some x) (hi : i < k) : (l.take k)[i]? = some x := by rw [List.getElem?_take, if_pos hi]; exact h
theorem takeGet' {α : Type} {l : List α} {k i : Nat} {x : α} (h : (l.take k)[i]? = some x) : l[i]? = some x ∧ i < k := by
  rw [List.getElem?_take] at h
  split at h
  · exact ⟨h, by assumption⟩
  · cases h
theorem DRel.trunc1 {G : Gh} {w : World} {d : D} {u : Value} {k m : Nat} (h : DRel G w d u) (hl : d.lt1 k m = true) : DRel (G.trunc k m) w d u := by
  cases h with
  | p x u h => exact .p x u h
  | undef => exact .undef
  | ptr nm off b hb => exact .ptr nm off b (takeGet hb (of_decide_eq_true hl))
  | yld t T p h1 h2 => exact .yld t T p (takeGet h1 (of_decide_eq_true hl)) h2
  | sp P u b nm off i e n v h1 h2 h3 h4 h5 h6 => exact .sp P u b nm off i e n _ (takeGet h1 (of_decide_eq_true hl)) h2 h3 h4 h5 h6
  | x t v X u T h1 h0 h2 h3 h4 => exact .x t v X u T (takeGet h1 (of_decide_eq_true hl)) h0 h2 h3 h4
  | mh nm b hb => exact .mh nm b (takeGet hb (of_decide_eq_true hl))
  | own t e size es u T h1 h2 h3 h0 h4 h5 =>
    have ht : t < m := of_decide_eq_true hl
    refine .own t e size es u T h1 h2 (takeGet h3 ht) h0 h4 fun he => ?_
    obtain ⟨a, cap, rfl, h6⟩ := h5 he
    refine ⟨a, cap, rfl, h6.imp id (Or.imp_left ?_)⟩
    rintro ⟨b, us, T2, ha, g1, g⟩
    exact ⟨b, us, T2, ha, takeGet g1 ht, g⟩
  | fn f a b us vs => cases hl
  | agg a us => cases hl
  | tup a us => cases hl
  | sf ds b us => cases hl
  | ef d b off u => cases hl
theorem DRel.truncF {G : Gh} {w : World} {d : D} {u : Value} {k m : Nat} (h : DRel G w d u) (hl : d.ltF k m = true) : DRel (G.trunc k m) w d u := by
  cases h with
  | p x u h => exact .p x u h
  | undef => exact .undef
  | ptr nm off b hb => exact DRel.trunc1 (.ptr nm off b hb) hl
  | yld t T p h1 h2 => exact DRel.trunc1 (.yld t T p h1 h2) hl
  | sp P u b nm off i e n v h1 h2 h3 h4 h5 h6 => exact DRel.trunc1 (.sp P u b nm off i e n _ h1 h2 h3 h4 h5 h6) hl
  | x t v X u T h1 h0 h2 h3 h4 => exact DRel.trunc1 (.x t v X u T h1 h0 h2 h3 h4) hl
  | mh nm b hb => exact DRel.trunc1 (.mh nm b hb) hl
  | own t e size es u T h1 h2 h3 h0 h4 h5 => exact DRel.trunc1 (.own t e size es u T h1 h2 h3 h0 h4 h5) hl
  | fn f a b us vs h1 h2 h3 h4 =>
    simp only [D.ltF, Bool.and_eq_true, List.all_eq_true] at hl
    exact .fn f a b us vs h1 h2 (fun j c u hc hu => (h3 j c u hc hu).trunc1 (hl.1 c (List.mem_of_getElem? hc))) (fun j c u hc hu => (h4 j c u hc hu).trunc1 (hl.2 c (List.mem_of_getElem? hc)))
  | agg a us => cases hl
  | tup a us => cases hl
  | sf ds b us => cases hl
  | ef d b off u => cases hl
theorem DRel.trunc {G : Gh} {w : World} {d : D} {u : Value} {k m : Nat} (h : DRel G w d u) (hl : d.lt k m = true) : DRel (G.trunc k m) w d u := by
  cases h with
  | p x u h => exact .p x u h
  | undef => exact .undef
  | ptr nm off b hb => exact DRel.trunc1 (.ptr nm off b hb) hl
  | yld t T p h1 h2 => exact DRel.trunc1 (.yld t T p h1 h2) hl
  | sp P u b nm off i e n v h1 h2 h3 h4 h5 h6 => exact DRel.trunc1 (.sp P u b nm off i e n _ h1 h2 h3 h4 h5 h6) hl
  | x t v X u T h1 h0 h2 h3 h4 => exact DRel.trunc1 (.x t v X u T h1 h0 h2 h3 h4) hl
  | mh nm b hb => exact DRel.trunc1 (.mh nm b hb) hl
  | own t e size es u T h1 h2 h3 h0 h4 h5 => exact DRel.trunc1 (.own t e size es u T h1 h2 h3 h0 h4 h5) hl
  | fn f a b us vs h1 h2 h3 h4 =>
    simp only [D.lt, Bool.and_eq_true, List.all_eq_true] at hl
    exact .fn f a b us vs h1 h2 (fun j c u hc hu => (h3 j c u hc hu).trunc1 (hl.1 c (List.mem_of_getElem? hc))) (fun j c u hc hu => (h4 j c u hc hu).trunc1 (hl.2 c (List.mem_of_getElem? hc)))
  | agg a us h1 h2 h3 =>
    simp only [D.lt, List.all_eq_true] at hl
    exact .agg a us h1 h2 (fun j c u hc hu => (h3 j c u hc hu).trunc1 (hl c (List.mem_of_getElem? hc)))
  | tup a us h1 h3 =>
    simp only [D.lt, List.all_eq_true] at hl
    exact .tup a us h1 (fun j c u hc hu => (h3 j c u hc hu).trunc1 (hl c (List.mem_of_getElem? hc)))
  | sf ds b us h1 h2 =>
    simp only [D.lt, List.all_eq_true] at hl
    exact .sf ds b us h1 (fun i d hd => (h2 i d hd).truncF (hl d (List.mem_of_getElem? hd)))
  | ef d b off u h1 h2 h3 => exact .ef d b off u h1 h2 (h3.truncF hl)
theorem Inv.trunc {G : Gh} {s : S} {w : World} (h : Inv G s w) (k m : Nat) (hl : ∀ cs ∈ s.heap.take k, ∀ c ∈ cs, c.lt k m = true) : Inv (G.trunc k m) ⟨s.heap.take k, s.live.take m⟩ w := by
  refine ⟨fun b o hc => ?_, ?_, ?_, fun i b cs hb hcs => ?_, ?_, fun t T b hT hb => ?_, fun T hT => h.pro T (List.mem_of_mem_take hT), h.glob⟩
  · obtain ⟨h1, h2, h3⟩ := h.com b o hc
    exact ⟨h1, fun hm => h2 (List.mem_of_mem_take hm), fun T hT => h3 T (List.mem_of_mem_take hT)⟩
  · show (G.name.take k).length = (s.heap.take k).length
    rw [List.length_take, List.length_take, h.names]
  · exact h.nodup.sublist (List.take_sublist _ _)
  · obtain ⟨hb, hi⟩ := takeGet' hb
    cases h.var i b cs hb (takeGet' hcs).1 with
    | cells us ty h1 h2 h3 => exact .cells us ty h1 h2 fun j c u hc hu => ⟨(h3 j c u hc hu).1, (h3 j c u hc hu).2.trunc (hl cs (List.mem_of_getElem? hcs) c (List.mem_of_getElem? hc))⟩
    | map fl ms es clock h1 h2 h3 => exact .map fl ms es clock h1 h2 h3
  · show (G.tok.take m).map (·.len) = s.live.take m
    rw [List.map_take, h.live]
  · obtain ⟨hT, ht⟩ := takeGet' hT
    obtain ⟨h1, h2, h3⟩ := h.tok t T b hT hb
    exact ⟨h1, fun hm => h2 (List.mem_of_mem_take hm), fun t' T' hT' hb' => h3 t' T' (takeGet' hT').1 hb'⟩

/-- Slots as they are where they name nothing that goes, else as data. -/
def keepD (k m : Nat) (d : D) : Option D := match d.lt k m with
  | true => some d
  | false => (unp d).map fun x => .p (lessV x)
def keepE (k m : Nat) : Env → Option Env
  | [] => some []
  | (t, d) :: r => match keepD k m d, keepE k m r with
    | some x, some l => some ((t, x) :: l)
    | _, _ => none
theorem keepE_look {k m : Nat} : ∀ (env env' : Env), keepE k m env = some env' → ∀ t d', env'.lookup t = some d' → ∃ d, env.lookup t = some d ∧ keepD k m d = some d'
  | [], env', h, t, d', h' => by simp [keepE] at h; subst h; simp at h'
  | (t0, d) :: r, env', h, t, d', h' => by
    unfold keepE at h
    split at h
    · rename_i x l hx hl
      cases h
      rw [List.lookup_cons] at h' ⊢
      by_cases ht : t = t0
      · subst ht
        simp only [beq_self_eq_true, Option.some.injEq] at h' ⊢
        exact ⟨d, rfl, by rw [hx, h']⟩
      · have hb : (t == t0) = false := by simpa using ht
        rw [hb] at h' ⊢
        exact keepE_look r l hl t d' h'
    · cases h
theorem keepD_rel {G : Gh} {w : World} {k m : Nat} {d d' : D} {u : Value} (h : DRel G w d u) (hd : keepD k m d = some d') : DRel (G.trunc k m) w d' u := by
  unfold keepD at hd
  split at hd
  · rename_i hl; cases hd; exact h.trunc hl
  · obtain ⟨x, hx, rfl⟩ := Option.map_eq_some_iff.1 hd
    exact .p _ _ (lessV_rel (show VRel G.com w x _ from unp_rel h hx))
theorem trunc_ex {G : Gh} {w : World} (k m : Nat) : Ex (k, m) G w (G.trunc k m) w :=
  ⟨⟨rfl, rfl, rfl, Nat.le_refl _, fun _ _ _ h k => ⟨h, k⟩, fun _ _ _ _ => rfl, fun _ _ h => .inl h, fun b hb => by
    rcases hb with hb | ⟨T, hT, hb⟩
    · exact .inr (.inl (List.mem_of_mem_take hb))
    · exact .inr (.inr ⟨T, List.mem_of_mem_take hT, hb⟩), fun _ _ h => h, .refl w⟩, fun nm b hl hb => takeGet hb hl, fun t T hl hT => ⟨T, takeGet hT hl, .refl T, fun _ => ⟨rfl, fun _ _ => rfl⟩⟩⟩
theorem Ex.le {B B' : Nat × Nat} {G G' : Gh} {w w' : World} (h : Ex B G w G' w') (h1 : B'.1 ≤ B.1) (h2 : B'.2 ≤ B.2) : Ex B' G w G' w' :=
  ⟨h.ext, fun nm b hl hb => h.name nm b (by omega) hb, fun t T hl hT => h.tok t T (by omega) hT⟩
/-- The first k variables and m tokens stay, all else is forgotten. -/
theorem Le.to (k m : Nat) {B : Nat × Nat} {N : Nat} {env : Env} {s : S} {τ : St} (h : (keepE k m env).map (fun e => St.mk e ⟨s.heap.take k, s.live.take m⟩) = some τ) (h1 : B.1 ≤ k := by exact Nat.le_of_ble_eq_true rfl) (h2 : B.2 ≤ m := by exact Nat.le_of_ble_eq_true rfl)
    (hl : (s.heap.take k).all (fun cs => cs.all (D.lt k m)) = true := by exact rfl) : Le B N ⟨env, s⟩ τ := ⟨fun G a w hR => by
  obtain ⟨env', he, rfl⟩ := Option.map_eq_some_iff.1 h
  refine ⟨G.trunc k m, (trunc_ex k m).le h1 h2, ⟨hR.inv.trunc k m ?_, fun t d' hd => ?_, hR.size⟩⟩
  · simp only [List.all_eq_true] at hl
    exact hl
  · obtain ⟨d, h1, h2⟩ := keepE_look env env' he t d' hd
    obtain ⟨k1, k2⟩ := hR.env t d h1
    exact ⟨k1, keepD_rel k2 h2⟩⟩

def argsD : List D → Nat → Env
  | [], _ => []
  | x :: r, i => (i, x) :: argsD r (i + 1)
theorem argsD_look : ∀ (xs : List D) (i t : Nat) (d : D), (argsD xs i).lookup t = some d → xs[t - i]? = some d ∧ i ≤ t
  | [], _, _, _, h => by simp [argsD] at h
  | x :: r, i, t, d, h => by
    unfold argsD at h
    rw [List.lookup_cons] at h
    by_cases ht : t = i
    · subst ht
      simp only [beq_self_eq_true, Option.some.injEq] at h
      subst h
      exact ⟨by simp, Nat.le_refl _⟩
    · have hb : (t == i) = false := by simpa using ht
      rw [hb] at h
      obtain ⟨h1, h2⟩ := argsD_look r (i + 1) t d h
      refine ⟨?_, by omega⟩
      rw [show t - i = (t - (i + 1)) + 1 by omega, List.getElem?_cons_succ]; exact h1
/-- What is handed back: data where it can be. -/
def retE (ds : List D) : D := match retD ds with
  | some d => d
  | none => match ds with
    | [d] => d
    | ds => .tup ds
def retR (tb : Tbl) (rs : List ResultVar) (R : D → S → Prop) (e : Exit) (σ : St) : Prop :=
  match e with
  | .normal => resAll tb σ rs fun ds => R (retE ds) σ.s
  | .ret => resAll tb σ rs fun ds => R (retE ds) σ.s
  | _ => False
theorem retE_rel {G : Gh} {w : World} {ds : List D} {us : List Value} (hl : us.length = ds.length) (h : ∀ (j : Nat) d u, ds[j]? = some d → us[j]? = some u → DRel G w d u) :
    DRel G w (retE ds) (if h : us.toArray.size = 1 then us.toArray[0] else .tuple us.toArray) := by
  unfold retE
  split
  · rename_i d hd; exact (retD_rel hl h hd).1
  · split
    · rename_i d
      match us, hl with
      | [u], _ => exact h 0 _ u rfl rfl
    · rename_i hne
      have hsz : ¬ us.toArray.size = 1 := by
        simp only [List.size_toArray, hl]
        intro h1
        match ds, h1 with
        | [d], _ => exact hne d rfl
      rw [dif_neg hsz]
      exact .tup _ _ (by simp [hl]) (fun j c u hc hu => h j c u hc (by simpa using hu))
section
variable {P : Program} {tb : Tbl}
/-- A function that looks at memory alone: it may be called in any order. -/
theorem CallOK.c {f : FuncId} {args : List D} {h : List (List D)} {r : D} (k : ∀ live, CallOK P f args ⟨h, live⟩ r ⟨h, live⟩) {gn : Bool} {live : List Nat} : CallC gn P f args ⟨h, live⟩ r ⟨h, live⟩ := ⟨k live, fun _ => ⟨rfl, k⟩⟩
theorem CallOK.g {f : FuncId} {args : List D} {s s' : S} {r : D} (k : CallOK P f args s r s') : CallC true P f args s r s' := ⟨k, fun h => by cases h⟩
/-- Data alone, out of a call in empty memory. -/
theorem CallOK.p {f : FuncId} {xs : List V} {r : D} (k : CallOK P f (xs.map .p) ⟨[], []⟩ r ⟨[], []⟩) : PCall P f xs r := by
  refine ⟨k.fn, fun C w us hgl hl hrel => (k.out ⟨fun b o => C b o ∧ b < w.heap.size, [], []⟩ w us ⟨fun b o h => ⟨h.2, by simp, by simp⟩, rfl, by simp, fun i b cs h => by simp at h, rfl, fun t T b h => by simp at h, fun T h => by simp at h, hgl.mono fun b o u h1 h2 => ⟨⟨h1, cellLt h2⟩, h2⟩⟩ (by simpa using hl) fun j d u hd hu => ?_).mono fun e w' ⟨u, G', he, hS, hI, hd⟩ => ?_⟩
  · rw [List.getElem?_map] at hd
    obtain ⟨x, hx, rfl⟩ := Option.map_eq_some_iff.1 hd
    exact .p _ _ (DRel.lt (hrel j x u hx hu))
  · have hnm : G'.name = [] := List.eq_nil_of_length_eq_zero hI.names
    have htk : G'.tok = [] := List.eq_nil_of_length_eq_zero (by have := congrArg List.length hI.live; simpa using this)
    refine ⟨u, he, ?_, ⟨hS.ext.os, hS.ext.tape, hS.ext.output, hS.ext.size, fun k hk => hS.ext.old k hk (by simp) (by simp)⟩⟩
    obtain ⟨com, name, tok⟩ := G'
    simp only at hnm htk
    subst hnm; subst htk
    refine hd.weak fun b o hc => ?_
    rcases hS.ext.new b o hc with h | h | h | ⟨T, h, _⟩
    · exact .inl h.1
    · exact .inr h
    · simp at h
    · simp at h
end
end Go.Proofs.YtagokkpnfceidaaDoor
end

section
namespace Go.Proofs.YtagokkpnfceidaaDoor
open Go.RowKit

/-- A slice in a variable's cell that has no room: it may be appended to by a token of its own. -/
theorem Le.ownH {B : Nat × Nat} {N : Nat} {env : Env} {s : S} (nm off e size : Nat) {cs : List D} {es : List (List V)} (h : s.heap[nm]? = some cs) (hc : cs[off]? = some (.p (.sl true es))) (hs : ∀ x ∈ es, x.length = size) (h0 : es = [] := by exact rfl) :
    Le B N ⟨env, s⟩ ⟨env, ⟨s.heap.set nm (cs.set off (.own s.live.length e size es)), s.live ++ [es.length]⟩⟩ := ⟨fun G a w hR => by
  obtain ⟨s1, s2⟩ := addTok_stp hR.inv es.length
  refine ⟨_, s1.ex B, ⟨s2.setCell (s := ⟨s.heap, s.live ++ [es.length]⟩) h (fun ds hd => by rw [hc] at hd; cases hd) (fun u hu => ?_), fun t' d' hd => ?_, hR.size⟩⟩
  · obtain ⟨c, hc', hu⟩ := hu
    rw [hc] at hc'; cases hc'
    have hlive : G.tok.length = s.live.length := by rw [← hR.inv.live]; simp
    cases hu with
    | p _ u hx =>
      obtain ⟨ad, cap, rfl, c1, c2, c3, c4⟩ := hx.isSlice
      have hx' : VRel G.com w (.sl false es) (.slice ad es.length cap) := by
        cases hx with
        | sl _ _ _ _ size b off us g1 g2 g3 g4 g5 g6 g7 g8 => exact .sl false es ad cap size b off us g1 g2 (fun h => by cases h) g4 g5 g6 g7 (fun h => by cases h)
      exact .own _ _ _ _ _ ⟨es.length, none, 0, none⟩ hx' hs (by rw [← hlive]; exact List.getElem?_concat_length) rfl (Nat.le_refl _) (fun _ => ⟨ad, cap, rfl, .inl ⟨by rw [c3 rfl, h0]; rfl, c4 rfl⟩⟩)
  · obtain ⟨k1, k2⟩ := hR.env t' d' hd
    exact ⟨k1, k2.mono s1⟩⟩
/-- A cell of a variable, weakened. -/
theorem Le.cell {B : Nat × Nat} {N : Nat} {env : Env} {s : S} (nm off : Nat) {cs : List D} {c d' : D} (h : s.heap[nm]? = some cs) (hc : cs[off]? = some c) (hd : ∀ G w u, DRel G w c u → DRel G w d' u) (hne : ∀ ds, c ≠ .tup ds := by exact fun _ h => nomatch h) :
    Le B N ⟨env, s⟩ ⟨env, ⟨s.heap.set nm (cs.set off d'), s.live⟩⟩ := ⟨fun G a w hR => ⟨G, .refl B G w, ⟨hR.inv.setCell h (fun ds hd => by rw [hc] at hd; cases hd; exact hne _ rfl) (fun u hu => by
  obtain ⟨c', h1, h2⟩ := hu
  rw [hc] at h1; cases h1
  exact hd G w u h2), hR.env, hR.size⟩⟩⟩
end Go.Proofs.YtagokkpnfceidaaDoor
end

section
namespace Go.Proofs.YtagokkpnfceidaaDoor
open Go.RowKit

/-- y is x, known less closely: a slice of which it is not told that it is full. -/
inductive LeV : V → V → Prop where
  | refl (x : V) : LeV x x
  | agg (xs ys : List V) : xs.length = ys.length → (∀ (j : Nat) x y, xs[j]? = some x → ys[j]? = some y → LeV x y) → LeV (.agg xs) (.agg ys)
  | sl (f f' : Bool) (es es' : List (List V)) : (f' = true → f = true) → es.length = es'.length → (∀ (i : Nat) e e', es[i]? = some e → es'[i]? = some e' → e.length = e'.length) →
      (∀ (i : Nat) e e', es[i]? = some e → es'[i]? = some e' → ∀ (k : Nat) c c', e[k]? = some c → e'[k]? = some c' → LeV c c') → LeV (.sl f es) (.sl f' es')
  | ep (xs ys : List V) : xs.length = ys.length → (∀ (j : Nat) x y, xs[j]? = some x → ys[j]? = some y → LeV x y) → LeV (.ep xs) (.ep ys)
  | none (ys : List V) : LeV (.v (.pointer none)) (.opt false ys)
  | opt (xs ys : List V) : xs.length = ys.length → (∀ (j : Nat) x y, xs[j]? = some x → ys[j]? = some y → LeV x y) → LeV (.ep xs) (.opt true ys)
theorem getLen {α β : Type} {a : List α} {b : List β} (h : a.length = b.length) {i : Nat} {x : β} (hx : b[i]? = some x) : ∃ y, a[i]? = some y := by
  have := (List.getElem?_eq_some_iff.1 hx).1
  exact ⟨a[i], List.getElem?_eq_getElem (by omega)⟩
theorem VRel.le {C : Nat → Nat → Prop} {w : World} {x y : V} (h : LeV x y) : ∀ {u : Value}, VRel C w x u → VRel C w y u := by
  induction h with
  | refl x => exact fun h => h
  | agg xs ys hl _ ih =>
    intro u h
    cases h with
    | agg _ us h1 h2 h3 =>
      refine .agg _ _ (by omega) (fun j c u hc hu => ?_) (fun j c u hc hu => ?_)
      · obtain ⟨x, hx⟩ := getLen hl hc
        exact h2 j x u hx hu
      · obtain ⟨x, hx⟩ := getLen hl hc
        exact ih j x c hx hc (h3 j x u hx hu)
  | sl f f' es es' hf hl hk _ ih =>
    intro u h
    cases h with
    | sl _ _ a cap size b off us g1 g2 g3 g4 g5 g6 g7 g8 =>
      rw [hl] at g1 g3 ⊢
      refine .sl f' es' a cap size b off us g1 g2 (fun h => g3 (hf h)) (fun e he => ?_) g5 (fun i k e c he hc => ?_) (fun i k e c he hc => ?_) (fun h => g8 (hf h))
      · obtain ⟨i, hi⟩ := List.getElem?_of_mem he
        obtain ⟨x, hx⟩ := getLen hl hi
        rw [← hk i x e hx hi]
        exact g4 x (List.mem_of_getElem? hx)
      · obtain ⟨x, hx⟩ := getLen hl he
        obtain ⟨y, hy⟩ := getLen (hk i x e hx he) hc
        exact g6 i k x y hx hy
      · obtain ⟨x, hx⟩ := getLen hl he
        obtain ⟨y, hy⟩ := getLen (hk i x e hx he) hc
        exact ih i x e hx he k y c hy hc (g7 i k x y hx hy)
  | ep xs ys hl _ ih =>
    intro u h
    cases h with
    | ep _ b off us h1 h2 =>
      refine .ep _ b off us (fun k c hc => ?_) (fun k c hc => ?_)
      · obtain ⟨x, hx⟩ := getLen hl hc
        exact h1 k x hx
      · obtain ⟨x, hx⟩ := getLen hl hc
        exact ih k x c hx hc (h2 k x hx)
  | none ys =>
    intro u h
    cases h
    exact .opt _ _ _ (fun _ => rfl) (fun h => nomatch h)
  | opt xs ys hl _ ih =>
    intro u h
    refine .opt _ _ _ (fun h => nomatch h) (fun _ => ?_)
    cases h with
    | ep _ b off us h1 h2 =>
      refine .ep _ b off us (fun k c hc => ?_) (fun k c hc => ?_)
      · obtain ⟨x, hx⟩ := getLen hl hc
        exact h1 k x hx
      · obtain ⟨x, hx⟩ := getLen hl hc
        exact ih k x c hx hc (h2 k x hx)
theorem LeV.eq {x y : V} (h : x = y) : LeV x y := h ▸ .refl x
/-- Cell by cell. -/
def LeL (xs ys : List V) : Prop := xs.length = ys.length ∧ ∀ (j : Nat) x y, xs[j]? = some x → ys[j]? = some y → LeV x y
theorem LeL.refl (xs : List V) : LeL xs xs := ⟨rfl, fun j x y hx hy => by rw [hx] at hy; cases hy; exact .refl x⟩
theorem LeL.eq {xs ys : List V} (h : xs = ys) : LeL xs ys := h ▸ .refl xs
theorem LeL.nil : LeL [] [] := .refl _
theorem LeL.cons {x y : V} {xs ys : List V} (h : LeV x y) (k : LeL xs ys) : LeL (x :: xs) (y :: ys) := by
  refine ⟨by simp [k.1], fun j a b ha hb => ?_⟩
  cases j with
  | zero => simp at ha hb; subst ha; subst hb; exact h
  | succ j => exact k.2 j a b ha hb
/-- Element by element, cell by cell. -/
def LeLL (es es' : List (List V)) : Prop := es.length = es'.length ∧ ∀ (i : Nat) e e', es[i]? = some e → es'[i]? = some e' → LeL e e'
theorem LeLL.refl (es : List (List V)) : LeLL es es := ⟨rfl, fun i e e' h h' => by rw [h] at h'; cases h'; exact .refl e⟩
theorem LeLL.eq {xs ys : List (List V)} (h : xs = ys) : LeLL xs ys := h ▸ .refl xs
theorem LeLL.nil : LeLL [] [] := .refl _
theorem LeLL.cons {x y : List V} {xs ys : List (List V)} (h : LeL x y) (k : LeLL xs ys) : LeLL (x :: xs) (y :: ys) := by
  refine ⟨by simp [k.1], fun j a b ha hb => ?_⟩
  cases j with
  | zero => simp at ha hb; subst ha; subst hb; exact h
  | succ j => exact k.2 j a b ha hb
theorem LeLL.app {a a' b b' : List (List V)} (h : LeLL a a') (k : LeLL b b') : LeLL (a ++ b) (a' ++ b') := by
  refine ⟨by simp [h.1, k.1], fun i e e' he he' => ?_⟩
  by_cases hi : i < a.length
  · rw [List.getElem?_append_left hi] at he
    rw [List.getElem?_append_left (by rw [← h.1]; exact hi)] at he'
    exact h.2 i e e' he he'
  · rw [List.getElem?_append_right (by omega)] at he
    rw [List.getElem?_append_right (by rw [← h.1]; omega), ← h.1] at he'
    exact k.2 _ e e' he he'
theorem LeV.sl' {f f' : Bool} {es es' : List (List V)} (hf : f' = true → f = true) (h : LeLL es es') : LeV (.sl f es) (.sl f' es') :=
  .sl _ _ _ _ hf h.1 (fun i e e' he he' => (h.2 i e e' he he').1) (fun i e e' he he' => (h.2 i e e' he he').2)
/-- Whatever it was, now it is a slice of which it is not told that it is full. -/
theorem LeV.no {f : Bool} {es es' : List (List V)} (h : LeLL es es') : LeV (.sl f es) (.sl false es') := .sl' (fun h => nomatch h) h
theorem LeV.not {f : Bool} {es : List (List V)} : LeV (.sl f es) (.sl false es) := .no (.refl es)

/-- A slot's content, known less closely. -/
inductive LeD : D → D → Prop where
  | refl (d : D) : LeD d d
  | p {x y : V} : LeV x y → LeD (.p x) (.p y)
  | own {t e size : Nat} {es es' : List (List V)} : LeLL es es' → LeD (.own t e size es) (.own t e size es')
  | drop {t e size : Nat} {f : Bool} {es es' : List (List V)} : f = false → LeLL es es' → LeD (.own t e size es) (.p (.sl f es'))
  | tup {xs ys : List V} : LeL xs ys → LeD (.tup (xs.map .p)) (.tup (ys.map .p))
theorem LeD.eq {x y : D} (h : x = y) : LeD x y := h ▸ .refl x
theorem DRel.le {G : Gh} {w : World} {d d' : D} {u : Value} (h : DRel G w d u) (k : LeD d d') : DRel G w d' u := by
  cases k with
  | refl => exact h
  | p k => cases h with | p _ _ h => exact .p _ _ (h.le k)
  | @own t e size es es' k =>
    cases h with
    | own _ _ _ _ _ T h1 h2 h3 h0 h4 h5 =>
      refine .own t e size es' u T (h1.le (.no k)) (fun x hx => ?_) h3 h0 (by rw [← k.1]; exact h4) (by rw [← k.1]; exact h5)
      obtain ⟨i, hi⟩ := List.getElem?_of_mem hx
      obtain ⟨y, hy⟩ := getLen k.1 hi
      rw [← (k.2 i y x hy hi).1]
      exact h2 y (List.mem_of_getElem? hy)
  | drop hf k => cases h with | own _ _ _ _ _ T h1 => subst hf; exact .p _ _ (h1.le (.no k))
  | @tup xs ys k =>
    cases h with
    | tup _ us h1 h2 =>
      refine .tup _ _ (by simpa [k.1] using h1) (fun j c u hc hu => ?_)
      rw [List.getElem?_map] at hc
      obtain ⟨y, hy, rfl⟩ := Option.map_eq_some_iff.1 hc
      obtain ⟨x, hx⟩ := getLen k.1 hy
      have := h2 j (.p x) u (by rw [List.getElem?_map, hx]; rfl) hu
      cases this with | p _ _ h => exact .p _ _ (h.le (k.2 j x y hx hy))

def viewed : Op → Bool
  | .call c => match c.callee with | .builtin .len => true | .builtin .append => true | _ => false
  | .slice _ _ _ _ _ => true
  | .convert _ _ _ => true
  | _ => false
/-- Behind some operations the content may be put in other words. -/
def vw (o : Op) (K : D → S → Prop) (d : D) (s : S) : Prop := match viewed o with
  | true => ∃ d' live, LeD d d' ∧ live = s.live ∧ K d' ⟨s.heap, live⟩
  | false => K d s
section
variable {P : Program} {tb : Tbl}
def bStep (gn : Bool) (P : Program) (tb : Tbl) (o : Op) (e : Operand → Option D) (s : S) (K : D → S → Prop) : Prop := aStep gn P tb o e s (vw o K)
theorem put_defers (a : Act) (dst : Option Nat) (u : Value) : (a.put dst u).defers = a.defers := by cases dst <;> rfl
theorem bStep_sound (hT : TblOk P tb) {rd : Option Nat} {gn : Bool} {N : Nat} {G : Gh} {σ : St} {a : Act} {w : World} (hR : Rel N G σ a w) {o : Oper} {K : D → S → Prop} (h : bStep gn P tb o.op (ev σ.env) σ.s K)
    {next : Act → World → Prop} {Q : Exit → Act → World → Prop} (hn : ∀ u w' G' d s', Stp G w G' w' → Inv G' s' w' → DRel G' w' d u → K d s' → next (a.put o.dst u) w') : o.wpIn (FW rd) 0 P a w next Q := by
  refine aStep_sound hT hR h fun u w' G' d s' h1 h2 h3 h4 => ?_
  unfold vw at h4
  split at h4
  · obtain ⟨d', live, hd, rfl, hk⟩ := h4
    exact hn u w' G' d' s' h1 h2 (h3.le hd) hk
  · exact hn u w' G' d s' h1 h2 h3 h4
theorem bStep_loc {P : Program} (o : Op) (e : Operand → Option D) : Loc (flags o) fun s K => bStep false P tb o e s K := by
  intro s K h
  obtain ⟨d, s1, h1, h2, h3, h4⟩ := aStep_loc (tb := tb) o e s _ h
  cases hv : viewed o with
  | false =>
    have e : ∀ K d s, vw o K d s = K d s := fun K d s => by unfold vw; rw [hv]
    rw [e] at h1
    refine ⟨d, s1, h1, h2, h3, fun s' K' e1 e2 hk => h4 s' _ e1 e2 ?_⟩
    rw [e]; exact hk
  | true =>
    have e : ∀ K d (s : S), vw o K d s = ∃ d' live, LeD d d' ∧ live = s.live ∧ K d' ⟨s.heap, live⟩ := fun K d s => by unfold vw; rw [hv]
    rw [e] at h1
    obtain ⟨d', live, hd, rfl, hk⟩ := h1
    refine ⟨d', s1, hk, h2, h3, fun s' K' e1 e2 hk' => h4 s' _ e1 e2 ?_⟩
    rw [e]; exact ⟨d', _, hd, rfl, hk'⟩
theorem bStep_congr {gn : Bool} (o : Op) {e e' : Operand → Option D} (h : ∀ x ∈ o.operands.toList, e x = e' x) (s : S) (K : D → S → Prop) : bStep gn P tb o e s K = bStep gn P tb o e' s K := aStep_congr o h s _

def bOne (gn : Bool) (P : Program) (tb : Tbl) (N : Nat) (ops : List Oper) (i : Nat) (σ : St) (K : St → Prop) : Prop :=
  match ops[i]? with
  | none => K σ
  | some o => match aWant ops σ.env o.guard with
    | some true => bStep gn P tb o.op (ev σ.env) σ.s fun d s' => splitB (isGuard ops i) d fun d => putE N σ.env o.dst d fun env' => K ⟨env', s'⟩
    | some false => putE N σ.env o.dst .undef fun env' => K ⟨env', σ.s⟩
    | none => False
def bOps (gn : Bool) (P : Program) (tb : Tbl) (N : Nat) (ops : List Oper) : List Nat → St → (St → Prop) → Prop
  | [], σ, K => K σ
  | i :: r, σ, K => bOne gn P tb N ops i σ fun σ' => bOps gn P tb N ops r σ' K
theorem bOne_sound (hT : TblOk P tb) {rd : Option Nat} {gn : Bool} {N : Nat} {G : Gh} {σ : St} {a : Act} {w : World} (hR : Rel N G σ a w) {ops : List Oper} {i : Nat} {K : St → Prop} (h : bOne gn P tb N ops i σ K)
    {next : Act → World → Prop} {Q : Exit → Act → World → Prop} (hn : ∀ a' w' G' σ', Stp G w G' w' → Rel N G' σ' a' w' → a'.defers = a.defers → K σ' → next a' w') : wpOpIn (FW rd) 0 P ops.toArray Q i next a w := by
  unfold bOne at h
  unfold wpOpIn
  split at h
  · rename_i ho
    simp only [List.getElem?_toArray, ho]
    exact hn a w G σ (.refl G w) hR rfl h
  · rename_i o ho
    simp only [List.getElem?_toArray, ho]
    split at h
    · rename_i hw
      rw [if_pos (aWant_rel hR ops o true hw)]
      refine bStep_sound hT hR h fun u w' G' d s' r1 r2 r3 r4 => ?_
      obtain ⟨env', q1, q2⟩ := putE_rel hR r1 r2 r3 (splitB_elim r4)
      exact hn _ _ _ _ r1 q1 (put_defers _ _ _) q2
    · rename_i hw
      rw [if_neg (by rw [aWant_rel hR ops o false hw]; simp)]
      refine ⟨fun f _ => FW_fn _ _, ?_⟩
      obtain ⟨env', q1, q2⟩ := putE_rel hR (.refl G w) hR.inv .undef h
      exact hn _ _ _ _ (.refl G w) q1 (put_defers _ _ _) q2
    · exact h.elim
theorem bOps_sound (hT : TblOk P tb) {rd : Option Nat} {gn : Bool} {N : Nat} {ops : List Oper} {Q : Exit → Act → World → Prop} {K : St → Prop} {B : Nat × Nat} {G0 : Gh} {w0 : World} {ds : List Deferred} (hQ : ∀ a w G σ, Ex B G0 w0 G w → Rel N G σ a w → a.defers = ds → K σ → Q .normal a w) :
    ∀ (l : List Nat) (σ : St) (a : Act) (w : World) (G : Gh), Ex B G0 w0 G w → Rel N G σ a w → a.defers = ds → bOps gn P tb N ops l σ K → wpOpsIn (FW rd) 0 P ops.toArray Q l a w
  | [], σ, a, w, G, hE, hR, hd, h => hQ a w G σ hE hR hd h
  | i :: r, σ, a, w, G, hE, hR, hd, h => by
    rw [wpOpsIn_cons]
    exact bOne_sound hT hR h fun a' w' G' σ' s1 r1 d1 h1 => bOps_sound hT hQ r σ' a' w' G' (hE.trans (s1.ex B)) r1 (d1.trans hd) h1
end
end Go.Proofs.YtagokkpnfceidaaDoor
end

section
namespace Go.Proofs.YtagokkpnfceidaaDoor
open Go.RowKit

/-- The callee's names as the caller's. -/
def D.ren1 (I J : List Nat) : D → D
  | .ptr i o => .ptr (I.getD i 0) o
  | .own t e s es => .own (J.getD t 0) e s es
  | .yld P t xs => .yld P (J.getD t 0) xs
  | .sp P u b i o => .sp P u b (I.getD i 0) o
  | .x t v X => .x (J.getD t 0) v X
  | .mh i => .mh (I.getD i 0)
  | d => d
def D.renF (I J : List Nat) : D → D
  | .fn f a b => .fn f (a.map (D.ren1 I J)) (b.map (D.ren1 I J))
  | d => D.ren1 I J d
def D.ren (I J : List Nat) : D → D
  | .fn f a b => .fn f (a.map (D.ren1 I J)) (b.map (D.ren1 I J))
  | .agg a => .agg (a.map (D.ren1 I J))
  | .tup a => .tup (a.map (D.ren1 I J))
  | .sf a => .sf (a.map (D.renF I J))
  | .ef d => .ef (D.renF I J d)
  | d => D.ren1 I J d
def tok0 : Tok := ⟨0, none, 0, none⟩
def Gh.sub (G : Gh) (I J : List Nat) : Gh := ⟨G.com, I.map (G.name.getD · 0), J.map (G.tok.getD · tok0)⟩
def updL {α : Type} : List α → List Nat → List α → List α
  | H, i :: I, n :: N => updL (H.set i n) I N
  | H, _, _ => H
theorem updL_len {α : Type} : ∀ (I : List Nat) (N H : List α), (updL H I N).length = H.length
  | [], N, H => by cases N <;> rfl
  | i :: I, [], H => rfl
  | i :: I, n :: N, H => by rw [updL, updL_len I N]; simp
theorem updL_out {α : Type} : ∀ (I : List Nat) (N H : List α) (i : Nat), i ∉ I → (updL H I N)[i]? = H[i]?
  | [], N, H, i, _ => by cases N <;> rfl
  | k :: I, [], H, i, _ => rfl
  | k :: I, n :: N, H, i, h => by
    rw [updL, updL_out I N _ i (fun hm => h (by simp [hm])), List.getElem?_set_ne (fun e => h (by simp [e]))]
theorem updL_in {α : Type} : ∀ (I : List Nat) (N H : List α) (k i : Nat) (n : α), I.Nodup → (∀ x ∈ I, x < H.length) → I[k]? = some i → N[k]? = some n → (updL H I N)[i]? = some n
  | [], N, H, k, i, n, _, _, hi, _ => by simp at hi
  | x :: I, [], H, k, i, n, _, _, _, hn => by simp at hn
  | x :: I, m :: N, H, k, i, n, hd, hl, hi, hn => by
    rw [updL]
    cases k with
    | zero =>
      simp at hi hn
      subst hi; subst hn
      rw [updL_out I N _ x (List.nodup_cons.1 hd).1, List.getElem?_set_self (hl x (by simp))]
    | succ k => exact updL_in I N _ k i n (List.nodup_cons.1 hd).2 (fun y hy => by simpa using hl y (by simp [hy])) (by simpa using hi) (by simpa using hn)
theorem nodup_inj {α : Type} {l : List α} (h : l.Nodup) {i j : Nat} {x : α} (hi : l[i]? = some x) (hj : l[j]? = some x) : i = j := by
  obtain ⟨li, ei⟩ := List.getElem?_eq_some_iff.1 hi
  obtain ⟨lj, ej⟩ := List.getElem?_eq_some_iff.1 hj
  have hp := List.pairwise_iff_getElem.1 h
  rcases Nat.lt_trichotomy i j with h1 | h1 | h1
  · exact absurd (ei.trans ej.symm) (hp i j li lj h1)
  · exact h1
  · exact absurd (ej.trans ei.symm) (hp j i lj li h1)
theorem nodup_of {α : Type} {l : List α} (h : ∀ (i j : Nat) x, l[i]? = some x → l[j]? = some x → i = j) : l.Nodup := by
  refine List.pairwise_iff_getElem.2 fun i j hi hj hlt he => ?_
  have := h i j l[i] (List.getElem?_eq_getElem hi) (by rw [he]; exact List.getElem?_eq_getElem hj)
  omega
theorem getDs {α : Type} {l : List α} {i : Nat} {x d : α} (h : l[i]? = some x) : l.getD i d = x := by simp [List.getD, h]
theorem getSome {α : Type} {l : List α} {i : Nat} (h : i < l.length) (d : α) : l[i]? = some (l.getD i d) := by simp [List.getD, h]
section
variable {I J : List Nat}
theorem sub_name {G : Gh} {k i : Nat} (h : I[k]? = some i) (hi : i < G.name.length) : (G.sub I J).name[k]? = G.name[i]? := by
  show (I.map (G.name.getD · 0))[k]? = _
  rw [List.getElem?_map, h, getSome hi 0]; rfl
theorem sub_tok {G : Gh} {k i : Nat} (h : J[k]? = some i) (hi : i < G.tok.length) : (G.sub I J).tok[k]? = G.tok[i]? := by
  show (J.map (G.tok.getD · tok0))[k]? = _
  rw [List.getElem?_map, h, getSome hi tok0]; rfl
theorem ren1_sub {G : Gh} {w : World} {d : D} {u : Value} (hI : ∀ i ∈ I, i < G.name.length) (hJ : ∀ j ∈ J, j < G.tok.length) (hl : d.lt1 I.length J.length = true) (h : DRel G w (d.ren1 I J) u) : DRel (G.sub I J) w d u := by
  cases d with
  | p x => cases h with | p _ _ h => exact .p _ _ h
  | undef => cases h; exact .undef
  | ptr nm off =>
    have hn : nm < I.length := of_decide_eq_true hl
    have hg := getSome hn 0
    cases h with
    | ptr _ _ b hb => exact .ptr _ _ b (by rw [sub_name hg (hI _ (List.mem_of_getElem? hg))]; exact hb)
  | own t e s es =>
    have hn : t < J.length := of_decide_eq_true hl
    have hg := getSome hn 0
    cases h with
    | own _ _ _ _ _ T h1 h2 h3 h0 h4 h5 =>
      have e1 := sub_tok (I := I) hg (hJ _ (List.mem_of_getElem? hg))
      refine .own _ _ _ _ _ T h1 h2 (by rw [e1]; exact h3) h0 h4 fun he => ?_
      obtain ⟨a, cap, rfl, h6⟩ := h5 he
      refine ⟨a, cap, rfl, h6.imp id (Or.imp_left ?_)⟩
      rintro ⟨b, us, T2, ha, g1, g⟩
      exact ⟨b, us, T2, ha, by rw [e1]; exact g1, g⟩
  | yld P t xs =>
    have hn : t < J.length := of_decide_eq_true hl
    have hg := getSome hn 0
    have e1 := sub_tok (I := I) hg (hJ _ (List.mem_of_getElem? hg))
    cases h with
    | yld _ T p h1 h2 => exact .yld t T p (by rw [e1]; exact h1) h2
  | sp P u b nm off =>
    have hn : nm < I.length := of_decide_eq_true hl
    have hg := getSome hn 0
    cases h with
    | sp _ _ _ _ _ i e n _ h1 h2 h3 h4 h5 h6 => exact .sp _ _ _ _ _ i e n _ (by rw [sub_name hg (hI _ (List.mem_of_getElem? hg))]; exact h1) h2 h3 h4 h5 h6
  | x t v X =>
    have hn : t < J.length := of_decide_eq_true hl
    have hg := getSome hn 0
    have e1 := sub_tok (I := I) hg (hJ _ (List.mem_of_getElem? hg))
    cases h with
    | x _ _ _ _ T h1 h0 h2 h3 h4 => exact .x t v X _ T (by rw [e1]; exact h1) h0 h2 h3 h4
  | mh nm =>
    have hn : nm < I.length := of_decide_eq_true hl
    have hg := getSome hn 0
    cases h with
    | mh _ b hb => exact .mh _ b (by rw [sub_name hg (hI _ (List.mem_of_getElem? hg))]; exact hb)
  | fn f a b => cases hl
  | agg a => cases hl
  | tup a => cases hl
  | sf a => cases hl
  | ef d => cases hl
theorem renF_sub {G : Gh} {w : World} {d : D} {u : Value} (hI : ∀ i ∈ I, i < G.name.length) (hJ : ∀ j ∈ J, j < G.tok.length) (hl : d.ltF I.length J.length = true) (h : DRel G w (d.renF I J) u) : DRel (G.sub I J) w d u := by
  have key : ∀ {l : List D}, l.all (D.lt1 I.length J.length) = true → ∀ {us : Array Value}, (∀ (j : Nat) c u, (l.map (D.ren1 I J))[j]? = some c → us[j]? = some u → DRel G w c u) → ∀ (j : Nat) c u, l[j]? = some c → us[j]? = some u → DRel (G.sub I J) w c u := fun {l} hl us hr j c u hc hu => by
    rw [List.all_eq_true] at hl
    exact ren1_sub hI hJ (hl c (List.mem_of_getElem? hc)) (hr j _ u (by rw [List.getElem?_map, hc]; rfl) hu)
  cases d with
  | p x => exact ren1_sub hI hJ hl h
  | undef => exact ren1_sub hI hJ hl h
  | ptr nm off => exact ren1_sub hI hJ hl h
  | own t e s es => exact ren1_sub hI hJ hl h
  | yld P t xs => exact ren1_sub hI hJ hl h
  | sp P u b nm off => exact ren1_sub hI hJ hl h
  | x t v X => exact ren1_sub hI hJ hl h
  | mh nm => exact ren1_sub hI hJ hl h
  | fn f a b =>
    simp only [D.ltF, Bool.and_eq_true] at hl
    cases h with
    | fn _ _ _ us vs h1 h2 h3 h4 => exact .fn _ _ _ us vs (by simpa using h1) (by simpa using h2) (key hl.1 h3) (key hl.2 h4)
  | agg a => cases hl
  | tup a => cases hl
  | sf a => cases hl
  | ef d => cases hl
theorem ren_sub {G : Gh} {w : World} {d : D} {u : Value} (hI : ∀ i ∈ I, i < G.name.length) (hJ : ∀ j ∈ J, j < G.tok.length) (hl : d.lt I.length J.length = true) (h : DRel G w (d.ren I J) u) : DRel (G.sub I J) w d u := by
  have key : ∀ {l : List D}, l.all (D.lt1 I.length J.length) = true → ∀ {us : Array Value}, (∀ (j : Nat) c u, (l.map (D.ren1 I J))[j]? = some c → us[j]? = some u → DRel G w c u) → ∀ (j : Nat) c u, l[j]? = some c → us[j]? = some u → DRel (G.sub I J) w c u := fun {l} hl us hr j c u hc hu => by
    rw [List.all_eq_true] at hl
    exact ren1_sub hI hJ (hl c (List.mem_of_getElem? hc)) (hr j _ u (by rw [List.getElem?_map, hc]; rfl) hu)
  cases d with
  | p x => exact ren1_sub hI hJ hl h
  | undef => exact ren1_sub hI hJ hl h
  | ptr nm off => exact ren1_sub hI hJ hl h
  | own t e s es => exact ren1_sub hI hJ hl h
  | yld P t xs => exact ren1_sub hI hJ hl h
  | sp P u b nm off => exact ren1_sub hI hJ hl h
  | x t v X => exact ren1_sub hI hJ hl h
  | mh nm => exact ren1_sub hI hJ hl h
  | fn f a b =>
    simp only [D.lt, Bool.and_eq_true] at hl
    cases h with
    | fn _ _ _ us vs h1 h2 h3 h4 => exact .fn _ _ _ us vs (by simpa using h1) (by simpa using h2) (key hl.1 h3) (key hl.2 h4)
  | agg a => cases h with | agg _ us h1 h2 h3 => exact .agg _ us (by simpa using h1) (fun j c u hc hu => h2 j _ u (by rw [List.getElem?_map, hc]; rfl) hu) (key hl h3)
  | tup a => cases h with | tup _ us h1 h3 => exact .tup _ us (by simpa using h1) (key hl h3)
  | sf a =>
    simp only [D.lt, List.all_eq_true] at hl
    have hm : ∀ (i : Nat) d, a[i]? = some d → (a.map (D.renF I J))[i]? = some (D.renF I J d) := fun i d hd => by rw [List.getElem?_map, hd]; rfl
    generalize hv : D.ren I J (.sf a) = y at h
    cases h with
    | sf ds b us h1 h2 =>
      cases hv
      rw [List.length_map]
      exact .sf a b us (fun i d hd => h1 i _ (hm i d hd)) (fun i d hd => renF_sub hI hJ (hl d (List.mem_of_getElem? hd)) (h2 i _ (hm i d hd)))
    | _ => cases hv
  | ef d => cases h with | ef _ b off u h1 h2 h3 => exact .ef _ b off u h1 h2 (renF_sub hI hJ hl h3)
/-- The ghost behind: the callee's tokens among the caller's, new ones at the end. -/
def Gh.back (G Gs : Gh) (J : List Nat) : Gh := ⟨Gs.com, G.name, updL G.tok J Gs.tok ++ Gs.tok.drop J.length⟩
/-- The callee's tokens, new ones too, as the caller's. -/
def moreJ (J : List Nat) (n m : Nat) : List Nat := J ++ (List.range (m - J.length)).map (· + n)
theorem sub_ren1 {Gs : Gh} {nm : List Nat} {tk : List Tok} {w : World} {d : D} {u : Value} (hN : ∀ (k i : Nat), I[k]? = some i → Gs.name[k]? = nm[i]?) (hT : ∀ (k j : Nat), J[k]? = some j → Gs.tok[k]? = tk[j]?) (hl : d.lt1 I.length J.length = true) (h : DRel Gs w d u) : DRel ⟨Gs.com, nm, tk⟩ w (d.ren1 I J) u := by
  cases d with
  | p x => cases h with | p _ _ h => exact .p _ _ h
  | undef => cases h; exact .undef
  | ptr n0 off =>
    have hg := getSome (show n0 < I.length from of_decide_eq_true hl) 0
    cases h with
    | ptr _ _ b hb => exact .ptr _ _ b (by rw [hN _ _ hg] at hb; exact hb)
  | own t e s es =>
    have hg := getSome (show t < J.length from of_decide_eq_true hl) 0
    cases h with
    | own _ _ _ _ _ T h1 h2 h3 h0 h4 h5 =>
      refine .own _ _ _ _ _ T h1 h2 (by rw [← hT _ _ hg]; exact h3) h0 h4 fun he => ?_
      obtain ⟨a, cap, rfl, h6⟩ := h5 he
      refine ⟨a, cap, rfl, h6.imp id (Or.imp_left ?_)⟩
      rintro ⟨b, us, T2, ha, g1, g⟩
      exact ⟨b, us, T2, ha, by rw [← hT _ _ hg]; exact g1, g⟩
  | yld P t xs =>
    have hg := getSome (show t < J.length from of_decide_eq_true hl) 0
    cases h with
    | yld _ T p h1 h2 => exact .yld _ T p (by rw [← hT _ _ hg]; exact h1) h2
  | sp P u b n0 off =>
    have hg := getSome (show n0 < I.length from of_decide_eq_true hl) 0
    cases h with
    | sp _ _ _ _ _ i e n _ h1 h2 h3 h4 h5 h6 => exact .sp _ _ _ _ _ i e n _ (by rw [hN _ _ hg] at h1; exact h1) h2 h3 h4 h5 h6
  | x t v X =>
    have hg := getSome (show t < J.length from of_decide_eq_true hl) 0
    cases h with
    | x _ _ _ _ T h1 h0 h2 h3 h4 => exact .x _ v X _ T (by rw [← hT _ _ hg]; exact h1) h0 h2 h3 h4
  | mh n0 =>
    have hg := getSome (show n0 < I.length from of_decide_eq_true hl) 0
    cases h with
    | mh _ b hb => exact .mh _ b (by rw [hN _ _ hg] at hb; exact hb)
  | fn f a b => cases hl
  | agg a => cases hl
  | tup a => cases hl
  | sf a => cases hl
  | ef d => cases hl
theorem sub_renF {Gs : Gh} {nm : List Nat} {tk : List Tok} {w : World} {d : D} {u : Value} (hN : ∀ (k i : Nat), I[k]? = some i → Gs.name[k]? = nm[i]?) (hT : ∀ (k j : Nat), J[k]? = some j → Gs.tok[k]? = tk[j]?) (hl : d.ltF I.length J.length = true) (h : DRel Gs w d u) : DRel ⟨Gs.com, nm, tk⟩ w (d.renF I J) u := by
  have key : ∀ {l : List D}, l.all (D.lt1 I.length J.length) = true → ∀ {us : Array Value}, (∀ (j : Nat) c u, l[j]? = some c → us[j]? = some u → DRel Gs w c u) → ∀ (j : Nat) c u, (l.map (D.ren1 I J))[j]? = some c → us[j]? = some u → DRel ⟨Gs.com, nm, tk⟩ w c u := fun {l} hl us hr j c u hc hu => by
    rw [List.all_eq_true] at hl
    rw [List.getElem?_map] at hc
    obtain ⟨c', hc', rfl⟩ := Option.map_eq_some_iff.1 hc
    exact sub_ren1 hN hT (hl c' (List.mem_of_getElem? hc')) (hr j c' u hc' hu)
  cases d with
  | p x => exact sub_ren1 (d := .p x) hN hT hl h
  | undef => exact sub_ren1 (d := .undef) hN hT hl h
  | ptr n off => exact sub_ren1 (d := .ptr n off) hN hT hl h
  | own t e s es => exact sub_ren1 (d := .own t e s es) hN hT hl h
  | yld P t xs => exact sub_ren1 (d := .yld P t xs) hN hT hl h
  | sp P u b n off => exact sub_ren1 (d := .sp P u b n off) hN hT hl h
  | x t v X => exact sub_ren1 (d := .x t v X) hN hT hl h
  | mh n => exact sub_ren1 (d := .mh n) hN hT hl h
  | fn f a b =>
    simp only [D.ltF, Bool.and_eq_true] at hl
    cases h with
    | fn _ _ _ us vs h1 h2 h3 h4 => exact .fn _ _ _ us vs (by simpa using h1) (by simpa using h2) (key hl.1 h3) (key hl.2 h4)
  | agg a => cases hl
  | tup a => cases hl
  | sf a => cases hl
  | ef d => cases hl
theorem sub_ren {Gs : Gh} {nm : List Nat} {tk : List Tok} {w : World} {d : D} {u : Value} (hN : ∀ (k i : Nat), I[k]? = some i → Gs.name[k]? = nm[i]?) (hT : ∀ (k j : Nat), J[k]? = some j → Gs.tok[k]? = tk[j]?) (hl : d.lt I.length J.length = true) (h : DRel Gs w d u) : DRel ⟨Gs.com, nm, tk⟩ w (d.ren I J) u := by
  have key : ∀ {l : List D}, l.all (D.lt1 I.length J.length) = true → ∀ {us : Array Value}, (∀ (j : Nat) c u, l[j]? = some c → us[j]? = some u → DRel Gs w c u) → ∀ (j : Nat) c u, (l.map (D.ren1 I J))[j]? = some c → us[j]? = some u → DRel ⟨Gs.com, nm, tk⟩ w c u := fun {l} hl us hr j c u hc hu => by
    rw [List.all_eq_true] at hl
    rw [List.getElem?_map] at hc
    obtain ⟨c', hc', rfl⟩ := Option.map_eq_some_iff.1 hc
    exact sub_ren1 hN hT (hl c' (List.mem_of_getElem? hc')) (hr j c' u hc' hu)
  cases d with
  | p x => exact sub_ren1 (d := .p x) hN hT hl h
  | undef => exact sub_ren1 (d := .undef) hN hT hl h
  | ptr n off => exact sub_ren1 (d := .ptr n off) hN hT hl h
  | own t e s es => exact sub_ren1 (d := .own t e s es) hN hT hl h
  | yld P t xs => exact sub_ren1 (d := .yld P t xs) hN hT hl h
  | sp P u b n off => exact sub_ren1 (d := .sp P u b n off) hN hT hl h
  | x t v X => exact sub_ren1 (d := .x t v X) hN hT hl h
  | mh n => exact sub_ren1 (d := .mh n) hN hT hl h
  | fn f a b =>
    simp only [D.lt, Bool.and_eq_true] at hl
    cases h with
    | fn _ _ _ us vs h1 h2 h3 h4 => exact .fn _ _ _ us vs (by simpa using h1) (by simpa using h2) (key hl.1 h3) (key hl.2 h4)
  | agg a =>
    cases h with
    | agg _ us h1 h2 h3 =>
      refine .agg _ us (by simpa using h1) (fun j c u hc hu => ?_) (key hl h3)
      rw [List.getElem?_map] at hc
      obtain ⟨c', hc', rfl⟩ := Option.map_eq_some_iff.1 hc
      exact h2 j c' u hc' hu
  | tup a => cases h with | tup _ us h1 h3 => exact .tup _ us (by simpa using h1) (key hl h3)
  | sf a =>
    simp only [D.lt, List.all_eq_true] at hl
    cases h with
    | sf _ b us h1 h2 =>
      rw [show a.length = (a.map (D.renF I J)).length by simp]
      refine .sf _ b us (fun i d hd => ?_) (fun i d hd => ?_)
      all_goals
        rw [List.getElem?_map] at hd
        obtain ⟨c', hc', rfl⟩ := Option.map_eq_some_iff.1 hd
      · exact h1 i c' hc'
      · exact sub_renF hN hT (hl c' (List.mem_of_getElem? hc')) (h2 i c' hc')
  | ef d => cases h with | ef _ b off u h1 h2 h3 => exact .ef _ b off u h1 h2 (sub_renF hN hT hl h3)
theorem ren1_p {d : D} {x : V} (h : d.ren1 I J = .p x) : d = .p x := by cases d <;> first | exact h | cases h
theorem map_one {α β : Type} {f : α → β} {l : List α} {y : β} (h : l.map f = [y]) : ∃ x, l = [x] ∧ f x = y := by
  cases l with
  | nil => cases h
  | cons x r =>
    rw [List.map_cons] at h
    injection h with h1 h2
    cases r with
    | nil => exact ⟨x, rfl, h1⟩
    | cons z q => cases h2
theorem ren_map {cs : List D} {x : V} (h : cs.map (D.ren I J) = [.tup [.p x]]) : cs = [.tup [.p x]] := by
  obtain ⟨c, rfl, h1⟩ := map_one h
  cases c with
  | tup a =>
    have h2 : D.tup (a.map (D.ren1 I J)) = .tup [.p x] := h1
    injection h2 with h3
    obtain ⟨d, rfl, h4⟩ := map_one h3
    rw [ren1_p h4]
  | _ => cases h1
theorem mem_sub {α : Type} {l : List α} {I : List Nat} {d x : α} (hI : ∀ i ∈ I, i < l.length) (h : x ∈ I.map (l.getD · d)) : x ∈ l := by
  obtain ⟨i, hi, rfl⟩ := List.mem_map.1 h
  exact List.mem_of_getElem? (getSome (hI i hi) d)
theorem Inv.sub {G : Gh} {H : List (List D)} {L : List Nat} {hs : List (List D)} {lv : List Nat} {w : World} (h : Inv G ⟨H, L⟩ w) (nI : I.Nodup) (nJ : J.Nodup) (hI : ∀ i ∈ I, i < H.length) (hJ : ∀ j ∈ J, j < L.length)
    (eH : I.map (H.getD · []) = hs.map fun cs => cs.map (D.ren I J)) (eL : J.map (L.getD · 0) = lv) (hlt : hs.all (fun cs => cs.all (D.lt I.length J.length)) = true) : Inv (G.sub I J) ⟨hs, lv⟩ w := by
  have hN : G.name.length = H.length := h.names
  have hT : G.tok.length = L.length := by have := congrArg List.length h.live; simpa using this
  have hI' : ∀ i ∈ I, i < G.name.length := fun i hi => by rw [hN]; exact hI i hi
  have hJ' : ∀ j ∈ J, j < G.tok.length := fun j hj => by rw [hT]; exact hJ j hj
  have hlen : hs.length = I.length := by have := congrArg List.length eH; simpa using this.symm
  refine ⟨fun b o hc => ?_, ?_, ?_, fun k b cs hb hcs => ?_, ?_, fun t T b ht hb => ?_, fun T hT' => h.pro T (mem_sub hJ' hT'), h.glob⟩
  · obtain ⟨h1, h2, h3⟩ := h.com b o hc
    exact ⟨h1, fun hm => h2 (mem_sub hI' hm), fun T hT' => h3 T (mem_sub hJ' hT')⟩
  · show (I.map _).length = hs.length
    rw [hlen]; simp
  · show (I.map (G.name.getD · 0)).Nodup
    refine nodup_of fun a b x ha hb => ?_
    rw [List.getElem?_map] at ha hb
    obtain ⟨i, hi, rfl⟩ := Option.map_eq_some_iff.1 ha
    obtain ⟨j, hj, he⟩ := Option.map_eq_some_iff.1 hb
    have g1 := getSome (hI' _ (List.mem_of_getElem? hi)) 0
    have g2 := getSome (hI' _ (List.mem_of_getElem? hj)) 0
    rw [he] at g2
    have hii := nodup_inj h.nodup g1 g2
    subst hii
    exact nodup_inj nI hi hj
  · have hk : k < I.length := by rw [← hlen]; exact (List.getElem?_eq_some_iff.1 hcs).1
    have hg := getSome hk 0
    have hil := hI _ (List.mem_of_getElem? hg)
    rw [sub_name hg (by rw [hN]; exact hil)] at hb
    have e := congrArg (·[k]?) eH
    simp only [List.getElem?_map, hg, hcs, Option.map_some, Option.some.injEq] at e
    have hH := getSome hil []
    rw [e] at hH
    cases h.var _ b _ hb hH with
    | map fl ms es clock h1 h2 h3 => exact .map fl ms es clock (ren_map h1) h2 h3
    | cells us ty h1 h2 h3 =>
    refine .cells us ty h1 (by rw [h2]; simp) fun j c u hc hu => ?_
    obtain ⟨g1, g2⟩ := h3 j (c.ren I J) u (by rw [List.getElem?_map, hc]; rfl) hu
    rw [List.all_eq_true] at hlt
    have hl := hlt cs (List.mem_of_getElem? hcs)
    rw [List.all_eq_true] at hl
    exact ⟨g1, ren_sub hI' hJ' (hl c (List.mem_of_getElem? hc)) g2⟩
  · show (J.map (G.tok.getD · tok0)).map (·.len) = lv
    rw [← eL, List.map_map]
    refine List.map_congr_left fun j hj => ?_
    have g1 := getSome (hJ' j hj) tok0
    have e := congrArg (·[j]?) h.live
    simp only [List.getElem?_map, g1, Option.map_some] at e
    show (G.tok.getD j tok0).len = L.getD j 0
    exact (getDs e.symm).symm
  · have htl : t < J.length := by have := (List.getElem?_eq_some_iff.1 ht).1; simpa [Gh.sub] using this
    have hg := getSome htl 0
    rw [sub_tok hg (hJ' _ (List.mem_of_getElem? hg))] at ht
    obtain ⟨h1, h2, h3⟩ := h.tok _ T b ht hb
    refine ⟨h1, fun hm => h2 (mem_sub hI' hm), fun t' T' ht' hb' => ?_⟩
    have htl' : t' < J.length := by have := (List.getElem?_eq_some_iff.1 ht').1; simpa [Gh.sub] using this
    have hg' := getSome htl' 0
    rw [sub_tok hg' (hJ' _ (List.mem_of_getElem? hg'))] at ht'
    have e := h3 _ T' ht' hb'
    rw [e] at hg'
    exact nodup_inj nJ hg' hg
/-- A call that sees but the variables I and the tokens J. -/
theorem CallOK.frame {P : Program} {f : FuncId} {args : List D} {hs hs' : List (List D)} {lv lv' : List Nat} {r : D} (k : CallOK P f args ⟨hs, lv⟩ r ⟨hs', lv'⟩) (I J : List Nat) {H : List (List D)} {L : List Nat} (nI : I.Nodup) (nJ : J.Nodup) (hI : ∀ i ∈ I, i < H.length) (hJ : ∀ j ∈ J, j < L.length)
    (eH : I.map (H.getD · []) = hs.map fun cs => cs.map (D.ren I J)) (eL : J.map (L.getD · 0) = lv) (hl' : hs'.length = I.length) (hlv' : J.length ≤ lv'.length)
    (ha : args.all (D.lt I.length J.length) = true) (hlt : hs.all (fun cs => cs.all (D.lt I.length J.length)) = true) (hr : r.lt I.length lv'.length = true) (hlt' : hs'.all (fun cs => cs.all (D.lt I.length lv'.length)) = true) :
    CallOK P f (args.map (D.ren I J)) ⟨H, L⟩ (r.ren I (moreJ J L.length lv'.length)) ⟨updL H I (hs'.map fun cs => cs.map (D.ren I (moreJ J L.length lv'.length))), updL L J lv' ++ lv'.drop J.length⟩ := by
  generalize hJJ : moreJ J L.length lv'.length = JJ
  have lJJ : JJ.length = lv'.length := by rw [← hJJ]; unfold moreJ; simp; omega
  refine ⟨k.fn, fun G w us hInv hs1 hrel => ?_⟩
  have hN : G.name.length = H.length := hInv.names
  have hT : G.tok.length = L.length := by have := congrArg List.length hInv.live; simpa using this
  have hI' : ∀ i ∈ I, i < G.name.length := fun i hi => by rw [hN]; exact hI i hi
  have hJ' : ∀ j ∈ J, j < G.tok.length := fun j hj => by rw [hT]; exact hJ j hj
  have hsub := hInv.sub nI nJ hI hJ eH eL hlt
  rw [List.all_eq_true] at ha
  refine (k.out (G.sub I J) w us hsub (by simpa using hs1) fun j d u hd hu => ren_sub hI' hJ' (ha d (List.mem_of_getElem? hd)) (hrel j _ u (by rw [List.getElem?_map, hd]; rfl) hu)).mono fun e w' ⟨u, Gs, he, hS, hV, hD⟩ => ?_
  have lN : Gs.name.length = I.length := by rw [← hl']; exact hV.names
  have lT : Gs.tok.length = lv'.length := by have := congrArg List.length hV.live; simpa using this
  have eN : ∀ (k i : Nat), I[k]? = some i → Gs.name[k]? = G.name[i]? := fun k i hk => by
    have hil := hI' i (List.mem_of_getElem? hk)
    have := sub_name (J := J) (G := G) hk hil
    rw [getSome hil 0] at this ⊢
    exact hS.name k _ this
  have hNs : ∀ b, b ∈ Gs.name → b ∈ G.name := fun b hb => by
    obtain ⟨k, hk⟩ := List.getElem?_of_mem hb
    have hkl : k < I.length := by rw [← lN]; exact (List.getElem?_eq_some_iff.1 hk).1
    rw [eN k _ (getSome hkl 0)] at hk
    exact List.mem_of_getElem? hk
  have lU : (updL G.tok J Gs.tok).length = L.length := by rw [updL_len]; exact hT
  have bT : ∀ (k j : Nat), JJ[k]? = some j → Gs.tok[k]? = (G.back Gs J).tok[j]? := fun k j hk => by
    have hkl : k < Gs.tok.length := by rw [lT, ← lJJ]; exact (List.getElem?_eq_some_iff.1 hk).1
    rw [← hJJ] at hk
    unfold moreJ at hk
    show _ = (updL G.tok J Gs.tok ++ Gs.tok.drop J.length)[j]?
    by_cases hkJ : k < J.length
    · rw [List.getElem?_append_left hkJ] at hk
      have hj := hJ j (List.mem_of_getElem? hk)
      rw [List.getElem?_append_left (by omega), updL_in J Gs.tok G.tok k j Gs.tok[k] nJ hJ' hk (List.getElem?_eq_getElem hkl), List.getElem?_eq_getElem hkl]
    · rw [List.getElem?_append_right (by omega), List.getElem?_map] at hk
      obtain ⟨z, hz, rfl⟩ := Option.map_eq_some_iff.1 hk
      have hz' : z = k - J.length := by have := (List.getElem?_eq_some_iff.1 hz).2; simpa using this.symm
      rw [List.getElem?_append_right (by omega), List.getElem?_drop]
      congr 1; omega
  have oT : ∀ j, j < L.length → j ∉ J → (G.back Gs J).tok[j]? = G.tok[j]? := fun j hj hm => by
    show (updL G.tok J Gs.tok ++ Gs.tok.drop J.length)[j]? = _
    rw [List.getElem?_append_left (by omega)]
    exact updL_out J Gs.tok G.tok j hm
  have tokCase : ∀ (t : Nat) T, (G.back Gs J).tok[t]? = some T → (∃ k, JJ[k]? = some t ∧ Gs.tok[k]? = some T) ∨ (t ∉ J ∧ G.tok[t]? = some T) := fun t T ht => by
    by_cases hm : t ∈ J
    · obtain ⟨k, hk⟩ := List.getElem?_of_mem hm
      have hk2 : JJ[k]? = some t := by rw [← hJJ]; unfold moreJ; rw [List.getElem?_append_left (List.getElem?_eq_some_iff.1 hk).1]; exact hk
      exact .inl ⟨k, hk2, by rw [bT k t hk2]; exact ht⟩
    · by_cases hlt : t < L.length
      · exact .inr ⟨hm, by rw [← oT t hlt hm]; exact ht⟩
      · have htl : t < (G.back Gs J).tok.length := (List.getElem?_eq_some_iff.1 ht).1
        have htl2 : t < (updL G.tok J Gs.tok ++ Gs.tok.drop J.length).length := htl
        rw [List.length_append, lU, List.length_drop, lT] at htl2
        have hk2 : JJ[J.length + (t - L.length)]? = some t := by
          rw [← hJJ]; unfold moreJ
          rw [List.getElem?_append_right (by omega), List.getElem?_map, List.getElem?_range (by omega)]
          simp; omega
        exact .inl ⟨_, hk2, by rw [bT _ t hk2]; exact ht⟩
  have subBlk : ∀ T ∈ (G.sub I J).tok, T ∈ G.tok := fun T hT' => mem_sub hJ' hT'
  -- where a small token's block comes from
  have blkFrom : ∀ T ∈ Gs.tok, ∀ b, T.has b → w.heap.size ≤ b ∨ b ∈ (G.sub I J).name ∨ ∃ T ∈ (G.sub I J).tok, T.has b := fun T hT' b hb => hS.ext.mine b (.inr ⟨T, hT', hb⟩)
  have stp : Stp G w (G.back Gs J) w' := by
    refine ⟨⟨hS.ext.os, hS.ext.tape, hS.ext.output, hS.ext.size, hS.ext.com, fun b hb hn ht => hS.ext.old b hb (fun hm => hn (mem_sub hI' hm)) (fun T hT' => ht T (subBlk T hT')), fun b o hc => ?_, fun b hb => ?_, hS.ext.mono, hS.ext.shp⟩, fun nm b hb => hb, fun t T ht => ?_⟩
    · rcases hS.ext.new b o hc with h | h | h | ⟨T, h, hb⟩
      · exact .inl h
      · exact .inr (.inl h)
      · exact .inr (.inr (.inl (mem_sub hI' h)))
      · exact .inr (.inr (.inr ⟨T, subBlk T h, hb⟩))
    · rcases hb with hb | ⟨T, hT', hb⟩
      · exact .inr (.inl hb)
      · obtain ⟨t, ht⟩ := List.getElem?_of_mem hT'
        rcases tokCase t T ht with ⟨k, -, hk⟩ | ⟨-, hk⟩
        · rcases blkFrom T (List.mem_of_getElem? hk) b hb with h | h | ⟨T2, h, hb2⟩
          · exact .inl h
          · exact .inr (.inl (mem_sub hI' h))
          · exact .inr (.inr ⟨T2, subBlk T2 h, hb2⟩)
        · exact .inr (.inr ⟨T, List.mem_of_getElem? hk, hb⟩)
    · by_cases hm : t ∈ J
      · obtain ⟨k, hk⟩ := List.getElem?_of_mem hm
        obtain ⟨T', h1, h2⟩ := hS.tok k T (by rw [sub_tok hk (hJ' t hm)]; exact ht)
        have hk2 : JJ[k]? = some t := by rw [← hJJ]; unfold moreJ; rw [List.getElem?_append_left (List.getElem?_eq_some_iff.1 hk).1]; exact hk
        exact ⟨T', by rw [← bT k t hk2]; exact h1, h2⟩
      · refine ⟨T, by rw [oT t (by rw [← hT]; exact (List.getElem?_eq_some_iff.1 ht).1) hm]; exact ht, .refl T, fun _ => ⟨rfl, fun b hb => ?_⟩⟩
        obtain ⟨g1, g2, g3⟩ := hInv.tok t T b ht hb
        refine hS.ext.old b g1 (fun hx => g2 (mem_sub hI' hx)) fun T' hT' hb' => ?_
        obtain ⟨j, hj, rfl⟩ := List.mem_map.1 hT'
        have := g3 j _ (getSome (hJ' j hj) tok0) hb'
        subst this
        exact hm hj
  have inv : Inv (G.back Gs J) ⟨updL H I (hs'.map fun cs => cs.map (D.ren I JJ)), updL L J lv' ++ lv'.drop J.length⟩ w' := by
    refine ⟨fun b o hc => ?_, ?_, hInv.nodup, fun i b cs hb hcs => ?_, ?_, fun t T b ht hb => ?_, fun T hT' => ?_, hV.glob⟩
    rotate_right
    · obtain ⟨t, ht⟩ := List.getElem?_of_mem hT'
      rcases tokCase t T ht with ⟨k, -, hk⟩ | ⟨hm, hk⟩
      · exact hV.pro T (List.mem_of_getElem? hk)
      · have hm' := List.mem_of_getElem? hk
        refine ⟨Tok.ok_ext (hInv.pro T hm') stp.ext fun b hb => ?_, fun b o hr => hS.ext.mono b o ((hInv.pro T hm').2 b o hr)⟩
        obtain ⟨g1, g2, g3⟩ := hInv.tok t T b hk hb
        refine hS.ext.old b g1 (fun hx => g2 (mem_sub hI' hx)) fun T' hT' hb' => ?_
        obtain ⟨j, hj, rfl⟩ := List.mem_map.1 hT'
        have := g3 j _ (getSome (hJ' j hj) tok0) hb'
        subst this
        exact hm hj
    · obtain ⟨g1, g2, g3⟩ := hV.com b o hc
      have hne : ∀ b', b' ∈ (G.sub I J).name → b' ∈ Gs.name := fun b' hb' => by
        obtain ⟨k, hk⟩ := List.getElem?_of_mem hb'
        exact List.mem_of_getElem? (hS.name k b' hk)
      refine ⟨g1, fun hm => ?_, fun T hT' => ?_⟩
      · rcases hS.ext.new b o hc with h | h | h | ⟨T, h, hb⟩
        · exact (hInv.com b o h).2.1 hm
        · have := name_lt hInv b hm; omega
        · exact g2 (hne b h)
        · obtain ⟨j, hj, rfl⟩ := List.mem_map.1 h
          exact (hInv.tok j _ b (getSome (hJ' j hj) tok0) hb).2.1 hm
      · obtain ⟨t, ht⟩ := List.getElem?_of_mem hT'
        rcases tokCase t T ht with ⟨k, -, hk⟩ | ⟨hm, hk⟩
        · exact g3 T (List.mem_of_getElem? hk)
        · have key : T.has b → T.may b o := fun hb => by
            obtain ⟨q1, q2, q3⟩ := hInv.tok t T b hk hb
            rcases hS.ext.new b o hc with h | h | h | ⟨T2, h, hb2⟩
            · exact (hInv.com b o h).2.2 T (List.mem_of_getElem? hk)
            · omega
            · exact absurd (mem_sub hI' h) q2
            · obtain ⟨j, hj, rfl⟩ := List.mem_map.1 h
              have := q3 j _ (getSome (hJ' j hj) tok0) hb2
              subst this
              exact absurd hj hm
          exact ⟨fun hb => (key (.inl hb)).1 hb, fun hb => (key (.inr hb)).2 hb⟩
    · show G.name.length = (updL H I _).length
      rw [updL_len]; exact hN
    · by_cases hm : i ∈ I
      · obtain ⟨k, hk⟩ := List.getElem?_of_mem hm
        have hkl : k < hs'.length := by rw [hl']; exact (List.getElem?_eq_some_iff.1 hk).1
        have hcs' : (updL H I (hs'.map fun cs => cs.map (D.ren I JJ)))[i]? = some (hs'[k].map (D.ren I JJ)) := updL_in I _ H k i _ nI hI hk (by rw [List.getElem?_map, List.getElem?_eq_getElem hkl]; rfl)
        have hcs2 : (updL H I (hs'.map fun cs => cs.map (D.ren I JJ)))[i]? = some cs := hcs
        rw [hcs'] at hcs2
        cases hcs2
        cases hV.var k b hs'[k] (by rw [eN k i hk]; exact hb) (List.getElem?_eq_getElem hkl) with
        | map fl ms es clock h1 h2 h3 => exact .map fl ms es clock (by rw [h1]; rfl) h2 h3
        | cells us' ty h1 h2 h3 =>
        refine .cells us' ty h1 (by rw [h2]; simp) fun j c u hc hu => ?_
        rw [List.getElem?_map] at hc
        obtain ⟨c', hc', rfl⟩ := Option.map_eq_some_iff.1 hc
        obtain ⟨q1, q2⟩ := h3 j c' u hc' hu
        rw [List.all_eq_true] at hlt'
        have hl2 := hlt' hs'[k] (List.getElem_mem hkl)
        rw [List.all_eq_true] at hl2
        exact ⟨q1, sub_ren (J := JJ) eN bT (by rw [lJJ]; exact hl2 c' (List.mem_of_getElem? hc')) q2⟩
      · have hcs2 : (updL H I (hs'.map fun cs => cs.map (D.ren I JJ)))[i]? = some cs := hcs
        rw [updL_out I _ H i hm] at hcs2
        refine (hInv.var i b cs hb hcs2).mono stp ?_
        refine hS.ext.old b (name_lt hInv b (List.mem_of_getElem? hb)) (fun hx => ?_) (fun T hT' hb' => ?_)
        · obtain ⟨j, hj, he⟩ := List.mem_map.1 hx
          have g1 := getSome (hI' j hj) 0
          rw [he] at g1
          have := nodup_inj hInv.nodup g1 hb
          subst this
          exact hm hj
        · obtain ⟨j, hj, rfl⟩ := List.mem_map.1 hT'
          exact (hInv.tok j _ b (getSome (hJ' j hj) tok0) hb').2.1 (List.mem_of_getElem? hb)
    · show (updL G.tok J Gs.tok ++ Gs.tok.drop J.length).map (·.len) = updL L J lv' ++ lv'.drop J.length
      rw [show lv' = Gs.tok.map (·.len) from hV.live.symm, show L = G.tok.map (·.len) from hInv.live.symm]
      have : ∀ (J : List Nat) (A N : List Tok), (updL A J N).map (·.len) = updL (A.map (·.len)) J (N.map (·.len)) := by
        intro J
        induction J with
        | nil => intro A N; cases N <;> rfl
        | cons j J ih =>
          intro A N
          cases N with
          | nil => rfl
          | cons n N => rw [updL, ih, List.map_cons, updL, List.map_set]
      rw [List.map_append, this J G.tok Gs.tok, List.map_drop]
    · rcases tokCase t T ht with ⟨k, hk, hT'⟩ | ⟨hm, hT'⟩
      · obtain ⟨q1, q2, q3⟩ := hV.tok k T b hT' hb
        refine ⟨q1, fun hx => ?_, fun t' T' ht' hb' => ?_⟩
        · rcases blkFrom T (List.mem_of_getElem? hT') b hb with h | h | ⟨T2, h, hb2⟩
          · have := name_lt hInv b hx; omega
          · obtain ⟨k2, hk2⟩ := List.getElem?_of_mem h
            exact q2 (List.mem_of_getElem? (hS.name k2 b hk2))
          · obtain ⟨j, hj, rfl⟩ := List.mem_map.1 h
            exact (hInv.tok j _ b (getSome (hJ' j hj) tok0) hb2).2.1 hx
        · rcases tokCase t' T' ht' with ⟨k', hk', hT2⟩ | ⟨hm', hT2⟩
          · have := q3 k' T' hT2 hb'
            subst this
            exact Option.some.inj (hk'.symm.trans hk)
          · obtain ⟨z1, z2, z3⟩ := hInv.tok t' T' b hT2 hb'
            rcases blkFrom T (List.mem_of_getElem? hT') b hb with h | h | ⟨T2, h, hb2⟩
            · omega
            · exact absurd (mem_sub hI' h) z2
            · obtain ⟨j, hj, rfl⟩ := List.mem_map.1 h
              have := z3 j _ (getSome (hJ' j hj) tok0) hb2
              subst this
              exact absurd hj hm'
      · obtain ⟨z1, z2, z3⟩ := hInv.tok t T b hT' hb
        refine ⟨Nat.lt_of_lt_of_le z1 hS.ext.size, z2, fun t' T' ht' hb' => ?_⟩
        rcases tokCase t' T' ht' with ⟨k', hk', hT2⟩ | ⟨hm', hT2⟩
        · rcases blkFrom T' (List.mem_of_getElem? hT2) b hb' with h | h | ⟨T2, h, hb2⟩
          · omega
          · exact absurd (mem_sub hI' h) z2
          · obtain ⟨j, hj, rfl⟩ := List.mem_map.1 h
            have := z3 j _ (getSome (hJ' j hj) tok0) hb2
            subst this
            exact absurd hj hm
        · exact z3 t' T' hT2 hb'
  exact ⟨u, G.back Gs J, he, stp, inv, sub_ren (J := JJ) eN bT (by rw [lJJ]; exact hr) hD⟩
def nodupB : List Nat → Bool
  | [] => true
  | x :: r => !r.contains x && nodupB r
theorem nodupB_spec : ∀ l : List Nat, nodupB l = true → l.Nodup
  | [], _ => List.nodup_nil
  | x :: r, h => by
    simp only [nodupB, Bool.and_eq_true] at h
    exact List.nodup_cons.2 ⟨by simpa using h.1, nodupB_spec r h.2⟩
def frameOk (I J : List Nat) (nh nl : Nat) (args : List D) (hs hs' : List (List D)) (lv' : List Nat) (r : D) : Bool :=
  nodupB I && nodupB J && I.all (Nat.blt · nh) && J.all (Nat.blt · nl) && hs'.length == I.length && Nat.ble J.length lv'.length && args.all (D.lt I.length J.length) && hs.all (fun cs => cs.all (D.lt I.length J.length)) && r.lt I.length lv'.length && hs'.all (fun cs => cs.all (D.lt I.length lv'.length))
theorem all_blt {I : List Nat} {n : Nat} (h : I.all (Nat.blt · n) = true) : ∀ i ∈ I, i < n := fun i hi => by
  rw [List.all_eq_true] at h
  simpa [Nat.blt_eq] using h i hi
theorem CallOK.fr {P : Program} {f : FuncId} {args : List D} {hs hs' : List (List D)} {lv lv' : List Nat} {r : D} (k : CallOK P f args ⟨hs, lv⟩ r ⟨hs', lv'⟩) (I J : List Nat) {H : List (List D)} {L : List Nat} (c : frameOk I J H.length L.length args hs hs' lv' r = true)
    (eH : I.map (H.getD · []) = hs.map fun cs => cs.map (D.ren I J)) (eL : J.map (L.getD · 0) = lv) : CallOK P f (args.map (D.ren I J)) ⟨H, L⟩ (r.ren I (moreJ J L.length lv'.length)) ⟨updL H I (hs'.map fun cs => cs.map (D.ren I (moreJ J L.length lv'.length))), updL L J lv' ++ lv'.drop J.length⟩ := by
  unfold frameOk at c
  simp only [Bool.and_eq_true] at c
  obtain ⟨⟨⟨⟨⟨⟨⟨⟨⟨c1, c2⟩, c3⟩, c4⟩, c5⟩, c6⟩, c7⟩, c8⟩, c9⟩, c10⟩ := c
  exact k.frame I J (nodupB_spec I c1) (nodupB_spec J c2) (all_blt c3) (all_blt c4) eH eL (by simpa using c5) (Nat.le_of_ble_eq_true c6) c7 c8 c9 c10
theorem updL_same {α : Type} : ∀ (I : List Nat) (N H : List α), I.Nodup → (∀ (k i : Nat) n, I[k]? = some i → N[k]? = some n → H[i]? = some n) → updL H I N = H
  | [], N, H, _, _ => by cases N <;> rfl
  | i :: I, [], H, _, _ => rfl
  | i :: I, n :: N, H, hd, h => by
    have h0 : H[i]? = some n := h 0 i n rfl rfl
    have e : H.set i n = H := by
      apply List.ext_getElem?
      intro j
      by_cases hj : j = i
      · subst hj
        rw [List.getElem?_set_self (List.getElem?_eq_some_iff.1 h0).1, h0]
      · rw [List.getElem?_set_ne (fun e => hj e.symm)]
    rw [updL, e]
    exact updL_same I N H (List.nodup_cons.1 hd).2 fun k j m hk hm => h (k + 1) j m (by simpa using hk) (by simpa using hm)
/-- Known less well, the arguments and what lies in variables. -/
theorem CallOK.weak {P : Program} {f : FuncId} {args args' : List D} {s : S} {r : D} {s' : S} (k : CallOK P f args' s r s') (hl : args.length = args'.length) (h : ∀ (j : Nat) d', args'[j]? = some d' → ∃ d, args[j]? = some d ∧ LeD d d') : CallOK P f args s r s' :=
  ⟨k.fn, fun G w us hI hs hrel => k.out G w us hI (by rw [hs, hl]) fun j d' u hd hu => by
    obtain ⟨d, h1, h2⟩ := h j d' hd
    exact (hrel j d u h1 hu).le h2⟩
end
end Go.Proofs.YtagokkpnfceidaaDoor
end
